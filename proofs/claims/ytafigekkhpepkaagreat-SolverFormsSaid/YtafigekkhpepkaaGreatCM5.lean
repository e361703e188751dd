/-
  The reference's ratios and roots, bit by bit.
-/
import Derived.Test.YtafigekkhpepkaaGreatCM4
section
set_option linter.unusedVariables false
set_option linter.unusedSimpArgs false
set_option maxHeartbeats 4000000
set_option maxRecDepth 100000
namespace Go.Ax
open Go.Proofs
/-! ### Ratios -/
theorem andU_1 {x : Nat} (hx : x < 18446744073709551616) : andI .u64 (x : Int) 1 = ((x % 2 : Nat) : Int) := by
  unfold andI
  have e1 : (BitVec.ofInt IntKind.u64.bits 1).toNat = 1 := by decide
  rw [BitVec.toNat_and, e1, toNat_u hx, Nat.and_one_is_mod, wrap_u (by unfold inU; omega)]
theorem orI_add {x y s : Nat} (hy : y < 2 ^ s) (h : 2 ^ s * x + y < 18446744073709551616) : orI .u64 ((2 ^ s * x : Nat) : Int) (y : Int) = ((2 ^ s * x + y : Nat) : Int) := by
  unfold orI
  rw [BitVec.toNat_or, toNat_u (by omega), toNat_u (by omega), ← Nat.two_pow_add_eq_or_of_lt hy, wrap_u (by unfold inU; omega)]
theorem or2 {x y : Nat} {p q : Int} (hp : p = ((2 * x : Nat) : Int)) (hq : q = (y : Int)) (hy : y < 2) (h : 2 * x + y < 18446744073709551616) : orI .u64 p q = ((2 * x + y : Nat) : Int) := by
  rw [hp, hq]
  have := orI_add (x := x) (y := y) (s := 1) (by simpa using hy) (by simpa using h)
  simpa using this
theorem bit_high {h l : Int} {M k : Nat} (hl : inU l) (hh : inU h) (hjm : jn h l = (M : Int)) (hk : 65 ≤ k) : M / 2 ^ (k - 1) = h.toNat / 2 ^ (k - 65) := by
  have p : (2 : Nat) ^ 64 = 18446744073709551616 := by decide
  have e : 2 ^ (k - 1) = 2 ^ 64 * 2 ^ (k - 65) := by rw [← Nat.pow_add]; congr 1; omega
  rw [e, ← Nat.div_div_eq_div_mul, p]
  congr 1
  unfold jn at hjm; unfold inU at hl hh
  omega
theorem bit_low {h l : Int} {M k : Nat} (hl : inU l) (hh : inU h) (hjm : jn h l = (M : Int)) (hk0 : 0 < k) (hk : k < 65) : M / 2 ^ (k - 1) % 2 = l.toNat / 2 ^ (k - 1) % 2 := by
  have p : (2 : Nat) ^ 64 = 18446744073709551616 := by decide
  have e : (18446744073709551616 : Nat) = 2 ^ (k - 1) * (2 * 2 ^ (64 - k)) := by
    rw [← p, Nat.mul_left_comm, ← Nat.pow_add, ← Nat.pow_succ']; congr 1; omega
  have e2 : M = l.toNat + 2 ^ (k - 1) * (2 * 2 ^ (64 - k) * h.toNat) := by
    rw [← Nat.mul_assoc, ← e]
    unfold jn at hjm; unfold inU at hl hh
    omega
  rw [e2, Nat.add_mul_div_left _ _ (Nat.two_pow_pos _), Nat.mul_assoc, Nat.add_mul_mod_self_left]
theorem over_step {M D k : Nat} (hk : 0 < k) (hk2 : k ≤ 128) (hD : 1 ≤ D ∧ D ≤ 9223372036854775808) (hM : M < 340282366920938463463374607431768211456) :
    ∀ (b : Int), b = ((M / 2 ^ (k - 1) % 2 : Nat) : Int) →
    ∀ (z : Int), z = IntKind.u64.wrap (((M / 2 ^ k % D : Nat) : Int) * 2) → ∀ (z4 : Int), z4 = orI IntKind.u64 z b →
    ∀ (z : Int), z = IntKind.u64.wrap (((M / 2 ^ k / D / 18446744073709551616 : Nat) : Int) * 2) →
    ∀ (z5 : Int), z5 = ((M / 2 ^ k / D % 18446744073709551616 : Nat) : Int) / 9223372036854775808 → ∀ (z6 : Int), z6 = orI IntKind.u64 z z5 →
    ∀ (z : Int), z = IntKind.u64.wrap (((M / 2 ^ k / D % 18446744073709551616 : Nat) : Int) * 2) →
    ((D : Int) ≤ z4 → ∀ (z7 : Int), z7 = IntKind.u64.wrap (z4 - D) → ∀ (z8 : Int), z8 = orI IntKind.u64 z 1 → ∀ (z : Int), z = IntKind.i64.wrap ((k : Int) - 1 - 1) →
      ∃ y : Nat, y ≤ 128 ∧ y < k ∧ (z = (y : Int) - 1 ∧ z7 = ((M / 2 ^ y % D : Nat) : Int)) ∧ z6 = ((M / 2 ^ y / D / 18446744073709551616 : Nat) : Int) ∧ z8 = ((M / 2 ^ y / D % 18446744073709551616 : Nat) : Int)) ∧
    (¬(D : Int) ≤ z4 → ∀ (z7 : Int), z7 = IntKind.i64.wrap ((k : Int) - 1 - 1) →
      ∃ y : Nat, y ≤ 128 ∧ y < k ∧ (z7 = (y : Int) - 1 ∧ z4 = ((M / 2 ^ y % D : Nat) : Int)) ∧ z6 = ((M / 2 ^ y / D / 18446744073709551616 : Nat) : Int) ∧ z = ((M / 2 ^ y / D % 18446744073709551616 : Nat) : Int)) := by
  intro b hb z1 hz1 z4 hz4 z2 hz2 z5 hz5 z6 hz6 z3 hz3
  have hP : M / 2 ^ k = M / 2 ^ (k - 1) / 2 := by
    rw [Nat.div_div_eq_div_mul, ← Nat.pow_succ]; congr 2; omega
  obtain ⟨Q, hQ⟩ : ∃ Q, Q = M / 2 ^ (k - 1) := ⟨_, rfl⟩
  have hQM : Q ≤ M := by rw [hQ]; exact Nat.div_le_self _ _
  rw [← hQ] at hP hb
  rw [hP] at hz1 hz2 hz3 hz5
  obtain ⟨P, hPd⟩ : ∃ P, P = Q / 2 := ⟨_, rfl⟩
  rw [← hPd] at hz1 hz2 hz3 hz5
  have hqr := Nat.div_add_mod P D
  have hr := Nat.mod_lt P (show 0 < D by omega)
  have hqP : P / D ≤ P := Nat.div_le_self _ _
  have hPM : P < 170141183460469231731687303715884105728 := by omega
  clear hP
  obtain ⟨q, hq⟩ : ∃ q, q = P / D := ⟨_, rfl⟩
  obtain ⟨r, hrr⟩ : ∃ r, r = P % D := ⟨_, rfl⟩
  rw [← hrr] at hz1 hqr hr
  rw [← hq] at hz2 hz3 hz5 hqr hqP
  have hw : ∀ n : Nat, n < 18446744073709551616 → IntKind.u64.wrap (n : Int) = n := fun n hn => wrap_u (by unfold inU; omega)
  have e1 : z1 = ((2 * r : Nat) : Int) := by rw [hz1, show (r : Int) * 2 = ((2 * r : Nat) : Int) by omega, hw _ (by omega)]
  have e4 : z4 = ((2 * r + Q % 2 : Nat) : Int) := by rw [hz4]; exact or2 e1 hb (by omega) (by omega)
  have e2 : z2 = ((2 * (q / 18446744073709551616) : Nat) : Int) := by
    rw [hz2, show ((q / 18446744073709551616 : Nat) : Int) * 2 = ((2 * (q / 18446744073709551616) : Nat) : Int) by omega, hw _ (by omega)]
  have e5 : z5 = ((q % 18446744073709551616 / 9223372036854775808 : Nat) : Int) := by rw [hz5]; rfl
  have e6 : z6 = ((2 * q / 18446744073709551616 : Nat) : Int) := by
    rw [hz6, or2 e2 e5 (by omega) (by omega)]
    omega
  have e3 : z3 = ((2 * (q % 9223372036854775808) : Nat) : Int) := by
    rw [hz3, wrap_u64]; omega
  have hQe : Q = D * (2 * q) + (2 * r + Q % 2) := by
    have : D * (2 * q) = 2 * (D * q) := Nat.mul_left_comm _ _ _
    omega
  have hki : IntKind.i64.wrap ((k : Int) - 1 - 1) = ((k - 1 : Nat) : Int) - 1 := by rw [wrap_in (by unfold inR; omega)]; omega
  refine ⟨fun hc z7 hz7 z8 hz8 z9 hz9 => ⟨k - 1, by omega, by omega, ⟨by rw [hz9, hki], ?_⟩, ?_, ?_⟩, fun hc z7 hz7 => ⟨k - 1, by omega, by omega, ⟨by rw [hz7, hki], ?_⟩, ?_, ?_⟩⟩
  all_goals rw [← hQ]
  all_goals clear hz1 hz2 hz3 hz4 hz5 hz6 hb
  · have hm : Q % D = 2 * r + Q % 2 - D := by
      have : Q = (2 * r + Q % 2 - D) + D * (2 * q + 1) := by rw [Nat.mul_add]; omega
      conv => lhs; rw [this]
      rw [Nat.add_mul_mod_self_left, Nat.mod_eq_of_lt (by omega)]
    rw [hm, hz7, e4, show ((2 * r + Q % 2 : Nat) : Int) - (D : Int) = ((2 * r + Q % 2 - D : Nat) : Int) by omega, hw _ (by omega)]
  · have hd : Q / D = 2 * q + 1 := by
      have : Q = (2 * r + Q % 2 - D) + D * (2 * q + 1) := by rw [Nat.mul_add]; omega
      conv => lhs; rw [this]
      rw [Nat.add_mul_div_left _ _ (by omega), Nat.div_eq_of_lt (by omega)]; omega
    rw [hd, e6]; omega
  · have hd : Q / D = 2 * q + 1 := by
      have : Q = (2 * r + Q % 2 - D) + D * (2 * q + 1) := by rw [Nat.mul_add]; omega
      conv => lhs; rw [this]
      rw [Nat.add_mul_div_left _ _ (by omega), Nat.div_eq_of_lt (by omega)]; omega
    rw [hd, hz8, or2 (q := 1) e3 (y := 1) rfl (by omega) (by omega)]; omega
  · have hm : Q % D = 2 * r + Q % 2 := by
      conv => lhs; rw [hQe]
      rw [Nat.mul_add_mod, Nat.mod_eq_of_lt (by omega)]
    rw [hm, e4]
  · have hd : Q / D = 2 * q := by
      conv => lhs; rw [hQe]
      rw [Nat.mul_add_div (by omega), Nat.div_eq_of_lt (by omega)]; omega
    rw [hd, e6]
  · have hd : Q / D = 2 * q := by
      conv => lhs; rw [hQe]
      rw [Nat.mul_add_div (by omega), Nat.div_eq_of_lt (by omega)]; omega
    rw [hd, e3]; omega
def c105 : Con
  | [.agg [.v (.bool g), .v (.int .u64 h), .v (.int .u64 l)], .v (.int .u64 d)] => some ([inU l, inU h, 1 ≤ d ∧ d ≤ 9223372036854775808], wd g (jn h l / d))
  | _ => none
theorem con105 : ConOK Tryz.prog 105 c105 := ConOK.of (G := []) (H := []) .nil Tryz.func105 fun l ob r hc hob => by
  unfold c105 at hc
  split at hc
  · rename_i g h l d
    cases hc
    have hl : inU l := hob _ (by simp)
    have hh : inU h := hob _ (by simp)
    have hd : 1 ≤ d ∧ d ≤ 9223372036854775808 := hob _ (by simp)
    refine ⟨by kernel_rfl, fnVC_go (rs := [.cell 4 140]) rfl rfl ?_⟩
    simp only [go_sem]
    obtain ⟨D, rfl⟩ : ∃ n : Nat, d = n := ⟨d.toNat, by omega⟩
    obtain ⟨M, hM⟩ : ∃ M : Nat, M = (jn h l).toNat := ⟨_, rfl⟩
    have hjm : jn h l = (M : Int) := by rw [hM]; unfold jn; unfold inU at hl hh; omega
    have hMK : M < 340282366920938463463374607431768211456 := by unfold jn at hjm; unfold inU at hl hh; omega
    refine loopC_go (fun (k : Nat) => k ≤ 128) (fun k => k) (fun k => [(7, i64 ((k : Int) - 1)), (6, u64 ((M / 2 ^ k % D : Nat) : Int))]) (fun k => [(5, fam1 140 3 [bo g, u64 ((M / 2 ^ k / D / 18446744073709551616 : Nat) : Int), u64 ((M / 2 ^ k / D % 18446744073709551616 : Nat) : Int)] none)]) [1, 0] [12, 13, 16, 17, 18, 19, 20, 21, 8, 22, 23, 24, 25, 26, 27, 28, 29, 30, 8, 31, 32, 33, 34, 6, 35, 36, 37, 38, 39, 40, 41, 42, 43, 44, 45, 46, 47, 48, 49, 50, 51, 52, 6, 53, 54, 55, 56, 14, 15, 7] 128 (by kernel_rfl) ?_ (Nat.le_refl _) ?_ ?_
    · intro x _; simp [goodNames, asg]
    · simp only [go_sem]
      have e : M / 340282366920938463463374607431768211456 = 0 := Nat.div_eq_of_lt hMK
      rw [e, Nat.zero_mod, Nat.zero_div]
      exact ⟨⟨by decide, rfl⟩, rfl, rfl⟩
    intro k hk
    simp only [go_sem]
    have hD : 1 ≤ D ∧ D ≤ 9223372036854775808 := by omega
    refine ⟨fun hk0 z hz => ?_, fun hk0 => ?_⟩
    · have ez : z = ((k - 1 : Nat) : Int) := by rw [hz, show (k : Int) - 1 = ((k - 1 : Nat) : Int) by omega, wrap_u (by unfold inU; omega)]
      refine ⟨by rw [ez]; omega, fun z1 hz1 z2 hz2 => ⟨fun h64 z3 hz3 z4 hz4 => ?_, fun h64 => ?_⟩⟩
      · have e3 : z4 = ((k - 65 : Nat) : Int) := by
          rw [hz4, hz3, wrap_in (by unfold inR; omega), show (k : Int) - 1 - 64 = ((k - 65 : Nat) : Int) by omega, wrap_u (by unfold inU; omega)]
        refine ⟨by rw [e3]; omega, fun z5 hz5 z6 hz6 => ?_⟩
        refine over_step (by omega) hk hD hMK z6 ?_
        rw [hz6, hz5, e3, Int.toNat_natCast, Nat.min_eq_left (by omega), bit_high hl hh hjm (by omega)]
        have hhn : h = ((h.toNat : Nat) : Int) := by unfold inU at hh; omega
        have hle : h.toNat / 2 ^ (k - 65) ≤ h.toNat := Nat.div_le_self _ _
        rw [show h.fdiv (2 ^ (k - 65)) = ((h.toNat / 2 ^ (k - 65) : Nat) : Int) by
          conv => lhs; rw [hhn]
          rw [show ((2 : Int) ^ (k - 65)) = ((2 ^ (k - 65) : Nat) : Int) by simp, Int.fdiv_eq_ediv_of_nonneg _ (Int.natCast_nonneg _)]; rfl]
        exact andU_1 (by unfold inU at hh; omega)
      · refine over_step (by omega) hk hD hMK z2 ?_
        rw [hz2, hz1, ez, Int.toNat_natCast, Nat.min_eq_left (by omega), bit_low hl hh hjm (by omega) (by omega)]
        have hhn : l = ((l.toNat : Nat) : Int) := by unfold inU at hl; omega
        have hle : l.toNat / 2 ^ (k - 1) ≤ l.toNat := Nat.div_le_self _ _
        rw [show l.fdiv (2 ^ (k - 1)) = ((l.toNat / 2 ^ (k - 1) : Nat) : Int) by
          conv => lhs; rw [hhn]
          rw [show ((2 : Int) ^ (k - 1)) = ((2 ^ (k - 1) : Nat) : Int) by simp, Int.fdiv_eq_ediv_of_nonneg _ (Int.natCast_nonneg _)]; rfl]
        exact andU_1 (by unfold inU at hl; omega)
    · have : k = 0 := by omega
      subst this
      rw [Nat.pow_zero, Nat.div_one, hjm]
      exact agg3 rfl (u64_eq (by omega)) (u64_eq (by omega))
  · cases hc
def c254 : Con
  | [.agg [.v (.bool g), .v (.int .u64 h), .v (.int .u64 l)]] => some ([inU l, inU h], wd false (isq (jn h l).toNat))
  | _ => none
theorem con254 : ConOK Tryz.prog 254 c254 := ConOK.of (G := [(171, c171), (235, c235)]) (H := []) (.cons con171 (.cons con235 .nil)) Tryz.func254 fun l ob r hc hob => by
  unfold c254 at hc
  split at hc
  · rename_i g h l
    cases hc
    have hl : inU l := hob _ (by simp)
    have hh : inU h := hob _ (by simp)
    refine ⟨by kernel_rfl, fnVC_go (rs := [.cell 2 140]) rfl rfl ?_⟩
    simp only [go_sem]
    obtain ⟨m, hm⟩ : ∃ m : Nat, m = (jn h l).toNat := ⟨_, rfl⟩
    have hjm : jn h l = (m : Int) := by rw [hm]; unfold jn; unfold inU at hl hh; omega
    have hmK : m < 340282366920938463463374607431768211456 := by unfold jn at hjm; unfold inU at hl hh; omega
    rw [← hm]
    refine loopC_go (fun (p : Nat × Nat) => p.1 ≤ 64 ∧ isqB m p.1 p.2 = isq m ∧ p.2 % 2 ^ p.1 = 0 ∧ p.2 + 2 ^ p.1 ≤ 18446744073709551616) (fun p => p.1) (fun p => [(4, i64 ((p.1 : Int) - 1)), (3, u64 p.2)]) (fun _ => []) [1, 0] [8, 9, 12, 13, 14, 15, 16, 5, 18, 19, 20, 17, 21, 22, 6, 7, 23, 24, 25, 26, 27, 28, 29, 3, 10, 11, 4] (64, 0) (by kernel_rfl) ?_ ⟨by decide, rfl, by decide, by decide⟩ ?_ ?_
    · intro x _; simp [goodNames, asg]
    · simp only [go_sem]
      decide
    intro p hp
    obtain ⟨k, r⟩ := p
    obtain ⟨hk, hr1, hr2, hr3⟩ := hp
    dsimp only at hk hr1 hr2 hr3
    simp only [go_sem, c171, c235]
    refine ⟨fun hk0 z hz => ?_, fun hk0 => ?_⟩
    · obtain ⟨j, rfl⟩ : ∃ j, k = j + 1 := ⟨k - 1, by omega⟩
      have ez : z = (j : Int) := by rw [hz, show ((j + 1 : Nat) : Int) - 1 = (j : Int) by omega, wrap_u (by unfold inU; omega)]
      refine ⟨by rw [ez]; omega, fun z1 hz1 z2 hz2 z3 hz3 z4 hz4 => ?_⟩
      have pj : 0 < 2 ^ j := Nat.two_pow_pos j
      have pk : 2 ^ (j + 1) = 2 * 2 ^ j := by rw [Nat.pow_succ, Nat.mul_comm]
      obtain ⟨x, hx⟩ : ∃ x, r = 2 ^ (j + 1) * x := ⟨r / 2 ^ (j + 1), by have := Nat.div_add_mod r (2 ^ (j + 1)); omega⟩
      have hj1 : 2 ^ j < 18446744073709551616 := by omega
      have e1 : z1 = ((2 ^ j : Nat) : Int) := by
        rw [hz1, ez, Int.toNat_natCast, Nat.min_eq_left (by omega), Int.one_mul, show ((2 : Int) ^ j) = ((2 ^ j : Nat) : Int) by simp, wrap_u ⟨Int.natCast_nonneg _, Int.ofNat_lt.2 hj1⟩]
      have e2 : z2 = ((r + 2 ^ j : Nat) : Int) := by
        rw [hz2, e1, hx]
        exact orI_add (by omega) (by rw [← hx]; omega)
      have hcU : inU z2 := by rw [e2]; exact ⟨Int.natCast_nonneg _, Int.ofNat_lt.2 (show r + 2 ^ j < 18446744073709551616 by omega)⟩
      refine ⟨hcU, hcU, fun z5 hz5 => ⟨hl, hh, ?_, ?_, fun h0 z6 hz6 => ⟨(j, r + 2 ^ j), ⟨by dsimp only; omega, ?_, ?_, ?_⟩, Nat.lt_succ_self j, ?_, e2⟩, fun h0 z6 hz6 => ⟨(j, r), ⟨by dsimp only; omega, ?_, ?_, ?_⟩, Nat.lt_succ_self j, ?_, rfl⟩⟩⟩
      all_goals (
        have hcc : z2 * z2 = (((r + 2 ^ j) * (r + 2 ^ j) : Nat) : Int) := by rw [e2, Int.natCast_mul]
        have hclt : r + 2 ^ j < 18446744073709551616 := by omega
        have hcK2 : (r + 2 ^ j) * (r + 2 ^ j) < 18446744073709551616 * 18446744073709551616 := Nat.mul_lt_mul'' hclt hclt
        have hjc : jn z3 z4 = z2 * z2 := by rw [hz3, hz4, mod_jn]
        rw [hcc] at hz3 hz4 hjc
        generalize hcd : (r + 2 ^ j) * (r + 2 ^ j) = cc at *)
      · rw [hz4]; exact inU_mod
      · rw [hz3]; unfold inU; omega
      · have : cc ≤ m := by
          rw [hz5, hjc, hjm] at h0
          have := of_decide_eq_false h0
          omega
        rw [← hr1]
        conv => rhs; unfold isqB
        rw [hcd, if_pos this]
      · show (r + 2 ^ j) % 2 ^ j = 0
        rw [hx, pk, Nat.mul_comm 2, Nat.mul_assoc, ← Nat.mul_succ, Nat.mul_mod_right]
      · show r + 2 ^ j + 2 ^ j ≤ 18446744073709551616
        omega
      · rw [hz6, wrap_in (by unfold inR; omega)]; dsimp only; omega
      · have : ¬ cc ≤ m := by
          rw [hz5, hjc, hjm] at h0
          have := of_decide_eq_true h0
          omega
        rw [← hr1]
        conv => rhs; unfold isqB
        rw [hcd, if_neg this]
      · show r % 2 ^ j = 0
        rw [hx, pk, Nat.mul_comm 2, Nat.mul_assoc, Nat.mul_mod_right]
      · show r + 2 ^ j ≤ 18446744073709551616
        omega
      · rw [hz6, wrap_in (by unfold inR; omega)]; dsimp only; omega
    · have : k = 0 := by omega
      subst this
      have e : r = isq m := hr1
      have := isq_small hmK
      rw [e]
      exact agg3 rfl (u64_eq (by omega)) (u64_eq (by omega))
  · cases hc
def c28 : Con
  | [.v (.int .i64 a), .v (.int .i64 b)] => some ([inR a, inR b], ra a b false)
  | _ => none
theorem con28 : ConOK Tryz.prog 28 c28 := ConOK.of (G := [(104, c104), (107, c107), (106, c106), (108, c108), (105, c105), (101, c101)]) (H := []) (.cons con104 (.cons con107 (.cons con106 (.cons con108 (.cons con105 (.cons con101 .nil)))))) Tryz.func28 fun l ob r hc hob => by
  unfold c28 at hc
  split at hc
  · rename_i a b
    cases hc
    have h_0 : inR a := hob _ (by simp)
    have h_1 : inR b := hob _ (by simp)
    refine ⟨by kernel_rfl, fnVC_go (rs := [.cell 4 24]) rfl rfl ?_⟩
    simp only [go_sem, c104, c107, c106, c108, c105, c101]
    simp only [forall_eq, mod_jn, Bool.or_false]
    refine ⟨fun hb => ?_, fun hb => ?_⟩
    · have hb : b = 0 := by simpa using hb
      refine agg2 (i64_eq ?_) (bo_eq ?_)
      · unfold raV; rw [if_pos hb]
      · unfold raF; rw [if_pos hb]; rfl
    · have hb : b ≠ 0 := by simpa using hb
      have ha0 := ab_nonneg a
      have hb0 := ab_nonneg b
      have ha1 : ab a ≤ 9223372036854775808 := by unfold inR at h_0; exact ab_le (by omega) (by omega)
      have hb1 : ab b ≤ 9223372036854775808 := by unfold inR at h_1; exact ab_le (by omega) (by omega)
      have hb2 : 0 < ab b := by unfold ab at hb0 ⊢; split <;> omega
      have e : (!decide (a < 0) == decide (b < 0)) = (decide (a < 0) != decide (b < 0)) := by cases decide (a < 0) <;> cases decide (b < 0) <;> rfl
      have k5 : 0 ≤ ab a * 4294967296 / ab b := Int.ediv_nonneg (by omega) hb0
      have k6 : ab a * 4294967296 / ab b ≤ ab a * 4294967296 := Int.ediv_le_self _ (by omega)
      refine ⟨h_0, inU_mod, inU_div ha0 (by omega), by omega, h_1, inU_mod, inU_div (by omega) (by omega), ⟨by omega, hb1⟩, inU_mod, inU_div k5 (by omega), ?_⟩
      rw [e, sgn_ratio hb]
      refine agg2 (i64_eq ?_) (bo_eq ?_)
      · unfold raV; rw [if_neg hb]
      · unfold raF; rw [if_neg hb, Bool.or_false]
  · cases hc
def c80 : Con
  | [.agg [.v (.int .i64 v), .v (.bool f)], .agg [.v (.int .i64 u), .v (.bool e)]] => some ([inR v, inR u], ra (whV v) (whV u) (whF v f || whF u e))
  | _ => none
theorem con80 : ConOK Tryz.prog 80 c80 := ConOK.of (G := [(100, c100), (104, c104), (28, c28)]) (H := []) (.cons con100 (.cons con104 (.cons con28 .nil))) Tryz.func80 fun l ob r hc hob => by
  unfold c80 at hc
  split at hc
  · rename_i v f u e
    cases hc
    have h_0 : inR v := hob _ (by simp)
    have h_1 : inR u := hob _ (by simp)
    refine ⟨by kernel_rfl, fnVC_go (rs := [.cell 4 24]) rfl rfl ?_⟩
    simp only [go_sem, c100, c104, c28]
    simp only [forall_eq, Bool.or_false]
    refine ⟨fun hb => ?_, fun hb => ⟨inR_wh h_0, inR_wh h_1, ?_⟩⟩
    · have hb : whV u = 0 := by simpa using hb
      refine agg2 (i64_eq ?_) (bo_eq ?_)
      · unfold raV; rw [if_pos hb]
      · unfold raF; rw [if_pos hb]; rfl
    · rw [Bool.or_assoc]
  · cases hc
def c200 : Con
  | [.agg [.v (.int .i64 v), .v (.bool f)], .agg [.v (.int .i64 u), .v (.bool e)]] => some ([inR v, inR u], nu (isq (whV v * whV v + whV u * whV u).toNat) (whF v f || whF u e))
  | _ => none
theorem con200 : ConOK Tryz.prog 200 c200 := ConOK.of (G := [(100, c100), (103, c103), (172, c172), (254, c254), (101, c101)]) (H := []) (.cons con100 (.cons con103 (.cons con172 (.cons con254 (.cons con101 .nil))))) Tryz.func200 fun l ob r hc hob => by
  unfold c200 at hc
  split at hc
  · rename_i v f u e
    cases hc
    have h_0 : inR v := hob _ (by simp)
    have h_1 : inR u := hob _ (by simp)
    refine ⟨by kernel_rfl, fnVC_go (rs := [.cell 4 24]) rfl rfl ?_⟩
    simp only [go_sem, c100, c103, c172, c254, c101]
    simp only [forall_eq, mod_jn, sgn_f, ab_sq]
    have k := mul_rg (inR_wh h_0) (inR_wh h_0)
    have k0 := sq_nonneg (a := whV v)
    have j := mul_rg (inR_wh h_1) (inR_wh h_1)
    have j0 := sq_nonneg (a := whV u)
    rw [ab_sq] at k j
    have e : plM (decide (whV v * whV v < 0)) (whV v * whV v) (decide (whV u * whV u < 0)) (whV u * whV u) = whV v * whV v + whV u * whV u := by
      unfold plM; rw [if_pos (by rw [decide_eq_false (by omega), decide_eq_false (by omega)])]
    rw [e]
    have s := isq_small (m := (whV v * whV v + whV u * whV u).toNat) (by omega)
    refine ⟨inR_wh h_0, inR_wh h_0, inR_wh h_1, inR_wh h_1, inU_mod, inU_div k0 (by omega), inU_mod, inU_div j0 (by omega), by omega, inU_mod, inU_div (by omega) (by omega), inU_mod, inU_div (by omega) (by omega), ?_⟩
    trivial
  · cases hc
end Go.Ax
end

section
/-
  The reference's sums, least and greatest numbers.
-/
set_option linter.unusedVariables false
set_option linter.unusedSimpArgs false
set_option maxHeartbeats 4000000
set_option maxRecDepth 100000
namespace Go.Ax
open Go.Proofs
def c158 : Con
  | [.ro n 2 g] => some ([nums n g, n ≤ 1000], bo (wfS n g))
  | _ => none
theorem vc158 (n : Nat) (X : Nat → Int) (F : Nat → Bool) (hn : n ≤ 1000) : fnVC Tryz.prog [(100, c100)] [] Tryz.f158 [.ro n 2 fun i => [i64 (X i), bo (F i)]] (· = bo (anyB (fun i => whF (X i) (F i)) n)) := by
  refine fnVC_go (rs := [.tmp 2]) rfl rfl ?_
  simp only [go_sem]
  refine loopC_go (fun (i : Nat) => i ≤ n ∧ ∀ j, j < i → whF (X j) (F j) = false) (fun i => n - i) (fun i => [(3, i64 i)]) (fun _ => []) [] [6, 7, 8, 9, 13, 14, 15, 16, 17, 12, 18, 19, 4, 5, 20, 2, 10, 11, 3] 0 (by kernel_rfl) ?_ ⟨Nat.zero_le _, fun j h => by omega⟩ ?_ ?_
  · intro x _; simp [goodNames]
  · simp only [go_sem]
  · intro i hi
    simp only [go_sem, c100]
    refine ⟨fun h => ⟨by omega, h, fun z hz z1 hz1 => ⟨fun hx => ?_, fun hx z2 hz2 => ⟨i + 1, ⟨by omega, fun j hj => ?_⟩, by omega, ?_⟩⟩⟩, fun h => false_of' fun hc => ?_⟩
    · exact (anyB_iff.2 ⟨i, by omega, by rw [hz1] at hx; exact hx⟩).symm
    · by_cases e : j = i
      · subst e; rw [hz1] at hx; exact hx
      · exact hi.2 j (by omega)
    · rw [hz2, wrap_in (by unfold inR; omega)]; rfl
    · obtain ⟨j, h1, h2⟩ := anyB_iff.1 hc
      rw [hi.2 j (by omega)] at h2; cases h2
theorem con158 : ConOK Tryz.prog 158 c158 := ConOK.go (G := [(100, c100)]) (H := []) (.cons con100 .nil) Tryz.func158 fun l ob r hc hob => by
  unfold c158 at hc
  split at hc
  · rename_i n g
    cases hc
    have hs : nums n g := hob _ (by simp)
    refine ⟨[.ro n 2 fun i => [i64 (gx g 0 i), bo (gb g 1 i)]], fun w I vs h => Rs_one (fun v => ro_alike fun i hi => (hs i hi).1) h, by kernel_rfl, vc158 n _ _ (hob _ (by simp))⟩
  · cases hc
/-- What is summed up. -/
def smR (X : Nat → Int) : Nat → Bool × Int
  | 0 => (false, 0)
  | i + 1 => (rpG (smR X i).1 (smR X i).2 (decide (X i < 0)) (ab (X i)), plM (smR X i).1 (smR X i).2 (decide (X i < 0)) (ab (X i)))
theorem smR_ok {X : Nat → Int} : ∀ i, sgn (smR X i).1 (smR X i).2 = suS X i ∧ 0 ≤ (smR X i).2
  | 0 => ⟨rfl, Int.le_refl 0⟩
  | i + 1 => by
    obtain ⟨h1, h2⟩ := smR_ok (X := X) i
    unfold smR suS
    exact ⟨by rw [rp_sgn, h1, sgn_ab], plM_nonneg h2 (ab_nonneg _)⟩
theorem smR_le {X : Nat → Int} {n : Nat} (h : ∀ i, i < n → rg (X i)) : ∀ i, i ≤ n → (smR X i).2 ≤ 9223372036854775807 * i
  | 0, _ => by simp [smR]
  | i + 1, hi => by
    have h0 := smR_le h i (by omega)
    have h1 := h i (by omega)
    unfold rg at h1
    have h2 : ab (X i) ≤ 9223372036854775807 := ab_le (by omega) (by omega)
    have h3 := plM_le (g := (smR X i).1) (g' := decide (X i < 0)) (smR_ok (X := X) i).2 (ab_nonneg (X i))
    unfold smR
    dsimp only
    omega
def c159 : Con
  | [.ro n 2 g] => some ([nums n g, n ≤ 1000], nu (suS (wvS g) n) (wfS n g))
  | _ => none
/-- Numbers, cell by cell. -/
def nug (g : Nat → List AV) : Nat → List AV := fun i => [i64 (gx g 0 i), bo (gb g 1 i)]
theorem nums_nug {n : Nat} {g : Nat → List AV} (h : nums n g) : nums n (nug g) := fun i hi => ⟨rfl, (h i hi).2⟩
theorem wvS_nug {g : Nat → List AV} : wvS (nug g) = wvS g := rfl
theorem wfS_nug {n : Nat} {g : Nat → List AV} : wfS n (nug g) = wfS n g := rfl
theorem vc159 (n : Nat) (X : Nat → Int) (F : Nat → Bool) (hX : ∀ i, i < n → inR (X i)) (hn : n ≤ 1000) : fnVC Tryz.prog [(100, c100), (107, c107), (172, c172), (158, c158), (101, c101)] [(6, ⟨[(4, .slot 3)], []⟩), (7, ⟨[(4, .slot 2)], []⟩)] Tryz.f159 [.ro n 2 fun i => [i64 (X i), bo (F i)]] (· = nu (suS (fun i => whV (X i)) n) (anyB (fun i => whF (X i) (F i)) n)) := by
  refine fnVC_go (rs := [.cell 2 24]) rfl rfl ?_
  simp only [go_sem]
  have hr : ∀ i, i < n → rg (whV (X i)) := fun i hi => whV_rg (hX i hi)
  refine loopC_go (fun (i : Nat) => i ≤ n) (fun i => n - i) (fun i => [(4, i64 i)]) (fun i => [(2, fam1 140 3 [bo (smR (fun i => whV (X i)) i).1, u64 ((smR (fun i => whV (X i)) i).2 / 18446744073709551616), u64 ((smR (fun i => whV (X i)) i).2 % 18446744073709551616)] none)]) [0] [8, 9, 10, 11, 15, 16, 17, 18, 19, 14, 20, 21, 5, 6, 22, 23, 24, 25, 12, 13, 4] 0 (by kernel_rfl) ?_ (Nat.zero_le _) ?_ ?_
  · intro x _; simp [goodNames, asg]
  · simp only [go_sem, smR]
    simp
  · intro i hi
    simp only [go_sem, c100, c107, c172, c158, c101]
    have h1 := smR_ok (X := fun i => whV (X i)) i
    have h2 := smR_le (X := fun i => whV (X i)) hr i hi
    refine ⟨fun hin => ?_, fun hin => ?_⟩
    · have h3 := hr i (by omega)
      have h4 := ab_nonneg (whV (X i))
      have h5 : ab (whV (X i)) ≤ 9223372036854775807 := by unfold rg at h3; exact ab_le (by omega) (by omega)
      simp only [forall_eq, mod_jn]
      refine ⟨by omega, hin, rg_inR h3, inU_mod, inU_div h1.2 (by omega), inU_mod, inU_div h4 (by omega), by omega, ⟨i + 1, by omega, by omega, ?_, rfl, rfl, rfl⟩⟩
      rw [wrap_in (by unfold inR; omega)]; rfl
    · have e : i = n := by omega
      subst e
      simp only [forall_eq, mod_jn]
      refine ⟨fun k hk => ⟨rfl, hX k hk⟩, hn, inU_mod, inU_div h1.2 (by omega), ?_⟩
      rw [h1.1]
      rfl
theorem con159 : ConOK Tryz.prog 159 c159 := ConOK.go (G := [(100, c100), (107, c107), (172, c172), (158, c158), (101, c101)]) (H := [(6, ⟨[(4, .slot 3)], []⟩), (7, ⟨[(4, .slot 2)], []⟩)]) (.cons con100 (.cons con107 (.cons con172 (.cons con158 (.cons con101 .nil))))) Tryz.func159 fun l ob r hc hob => by
  unfold c159 at hc
  split at hc
  · rename_i n g
    cases hc
    have hs : nums n g := hob _ (by simp)
    exact ⟨[.ro n 2 fun i => [i64 (gx g 0 i), bo (gb g 1 i)]], fun w I vs h => Rs_one (fun v => ro_alike fun i hi => (hs i hi).1) h, by kernel_rfl, vc159 n _ _ (fun i hi => (hs i hi).2) (hob _ (by simp))⟩
  · cases hc
def c165 : Con
  | [.ro n 2 g] => some ([nums n g, n ≤ 1000], moS 1 n g)
  | _ => none
theorem vc165 (n : Nat) (X : Nat → Int) (F : Nat → Bool) (hX : ∀ i, i < n → inR (X i)) (hn : n ≤ 1000) : fnVC Tryz.prog [(100, c100), (158, c158)] [] Tryz.f165 [.ro n 2 fun i => [i64 (X i), bo (F i)]] (· = .agg [i64 (if n = 0 then 0 else msS 1 (fun i => whV (X i)) n), bo (anyB (fun i => whF (X i) (F i)) n)]) := by
  refine fnVC_go (rs := [.cell 2 24]) rfl rfl ?_
  simp only [go_sem, c100]
  refine ⟨fun h => ?_, fun h => ?_⟩
  · have : n = 0 := by simpa using h
    subst this
    rfl
  have h : n ≠ 0 := by simpa using h
  refine ⟨by omega, fun z hz z1 hz1 => ?_⟩
  refine loopC_go (fun (i : Nat) => i + 1 ≤ n) (fun i => n - i) (fun i => [(5, i64 ((i + 1 : Nat) : Int)), (3, i64 (exS 1 (whV (X 0)) (fun i => whV (X (i + 1))) i))]) (fun _ => []) [0] [19, 20, 21, 22, 26, 27, 28, 29, 30, 25, 31, 32, 6, 7, 33, 34, 35, 36, 3, 23, 24, 5] 0 (by kernel_rfl) ?_ (by omega) ?_ ?_
  · intro x _; simp [goodNames, asg]
  · simp only [go_sem, exS]
    exact hz
  · intro i hi
    simp only [go_sem, c100, c158]
    have hw : IntKind.i64.wrap (((i + 1 : Nat) : Int) + 1) = ((i + 1 + 1 : Nat) : Int) := by rw [wrap_in (by unfold inR; omega)]; rfl
    refine ⟨fun hin => ⟨by omega, hin, fun z2 hz2 z3 hz3 => ⟨fun h2 z4 hz4 => ⟨i + 1, by omega, by omega, by rw [hz4, hw], ?_⟩, fun h2 z4 hz4 => ⟨i + 1, by omega, by omega, by rw [hz4, hw], ?_⟩⟩⟩, fun hin z2 hz2 => ⟨fun k hk => ⟨rfl, hX k hk⟩, hn, ?_⟩⟩
    · conv => rhs; unfold exS
      rw [hz2] at h2
      rw [if_pos (.inl ⟨rfl, h2⟩), hz2]
    · conv => rhs; unfold exS
      rw [hz2] at h2
      rw [if_neg ?_]
      rintro (⟨_, k⟩ | ⟨k, _⟩)
      · exact h2 k
      · exact absurd k (by decide)
    · have e : i = n - 1 := by omega
      refine agg2 (i64_eq ?_) (bo_eq hz2)
      rw [if_neg h, e]
      rfl
theorem con165 : ConOK Tryz.prog 165 c165 := ConOK.go (G := [(100, c100), (158, c158)]) (H := []) (.cons con100 (.cons con158 .nil)) Tryz.func165 fun l ob r hc hob => by
  unfold c165 at hc
  split at hc
  · rename_i n g
    cases hc
    have hs : nums n g := hob _ (by simp)
    exact ⟨[.ro n 2 fun i => [i64 (gx g 0 i), bo (gb g 1 i)]], fun w I vs h => Rs_one (fun v => ro_alike fun i hi => (hs i hi).1) h, by kernel_rfl, vc165 n _ _ (fun i hi => (hs i hi).2) (hob _ (by simp))⟩
  · cases hc
def c78 : Con
  | [.ro n 2 g] => some ([nums n g, n ≤ 1000], moS (-1) n g)
  | _ => none
theorem vc78 (n : Nat) (X : Nat → Int) (F : Nat → Bool) (hX : ∀ i, i < n → inR (X i)) (hn : n ≤ 1000) : fnVC Tryz.prog [(100, c100), (158, c158)] [] Tryz.f78 [.ro n 2 fun i => [i64 (X i), bo (F i)]] (· = .agg [i64 (if n = 0 then 0 else msS (-1) (fun i => whV (X i)) n), bo (anyB (fun i => whF (X i) (F i)) n)]) := by
  refine fnVC_go (rs := [.cell 2 24]) rfl rfl ?_
  simp only [go_sem, c100]
  refine ⟨fun h => ?_, fun h => ?_⟩
  · have : n = 0 := by simpa using h
    subst this
    rfl
  have h : n ≠ 0 := by simpa using h
  refine ⟨by omega, fun z hz z1 hz1 => ?_⟩
  refine loopC_go (fun (i : Nat) => i + 1 ≤ n) (fun i => n - i) (fun i => [(5, i64 ((i + 1 : Nat) : Int)), (3, i64 (exS (-1) (whV (X 0)) (fun i => whV (X (i + 1))) i))]) (fun _ => []) [0] [19, 20, 21, 22, 26, 27, 28, 29, 30, 25, 31, 32, 6, 7, 33, 34, 35, 36, 3, 23, 24, 5] 0 (by kernel_rfl) ?_ (by omega) ?_ ?_
  · intro x _; simp [goodNames, asg]
  · simp only [go_sem, exS]
    exact hz
  · intro i hi
    simp only [go_sem, c100, c158]
    have hw : IntKind.i64.wrap (((i + 1 : Nat) : Int) + 1) = ((i + 1 + 1 : Nat) : Int) := by rw [wrap_in (by unfold inR; omega)]; rfl
    refine ⟨fun hin => ⟨by omega, hin, fun z2 hz2 z3 hz3 => ⟨fun h2 z4 hz4 => ⟨i + 1, by omega, by omega, by rw [hz4, hw], ?_⟩, fun h2 z4 hz4 => ⟨i + 1, by omega, by omega, by rw [hz4, hw], ?_⟩⟩⟩, fun hin z2 hz2 => ⟨fun k hk => ⟨rfl, hX k hk⟩, hn, ?_⟩⟩
    · conv => rhs; unfold exS
      rw [hz2] at h2
      rw [if_pos (.inr ⟨rfl, h2⟩), hz2]
    · conv => rhs; unfold exS
      rw [hz2] at h2
      rw [if_neg ?_]
      rintro (⟨k, _⟩ | ⟨_, k⟩)
      · exact absurd k (by decide)
      · exact h2 k
    · have e : i = n - 1 := by omega
      refine agg2 (i64_eq ?_) (bo_eq hz2)
      rw [if_neg h, e]
      rfl
theorem con78 : ConOK Tryz.prog 78 c78 := ConOK.go (G := [(100, c100), (158, c158)]) (H := []) (.cons con100 (.cons con158 .nil)) Tryz.func78 fun l ob r hc hob => by
  unfold c78 at hc
  split at hc
  · rename_i n g
    cases hc
    have hs : nums n g := hob _ (by simp)
    exact ⟨[.ro n 2 fun i => [i64 (gx g 0 i), bo (gb g 1 i)]], fun w I vs h => Rs_one (fun v => ro_alike fun i hi => (hs i hi).1) h, by kernel_rfl, vc78 n _ _ (fun i hi => (hs i hi).2) (hob _ (by simp))⟩
  · cases hc
def c79 : Con
  | [.agg [.v (.int .i64 v), .v (.bool f)], .agg [.v (.int .i64 u), .v (.bool e)]] => some ([inR v, inR u], nu (whV v + whV u) (whF v f || whF u e))
  | _ => none
theorem con79 : ConOK Tryz.prog 79 c79 := ConOK.of (G := [(159, c159)]) (H := []) (.cons con159 .nil) Tryz.func79 fun l ob r hc hob => by
  unfold c79 at hc
  split at hc
  · rename_i v f u e
    cases hc
    have h_0 : inR v := hob _ (by simp)
    have h_1 : inR u := hob _ (by simp)
    refine ⟨by kernel_rfl, fnVC_go (rs := [.cell 4 24]) rfl rfl ?_⟩
    simp only [go_sem, c159]
    simp only [forall_eq]
    obtain ⟨e1, e2⟩ := sum2 (g := rowsOf 2 [i64 v, bo f, i64 u, bo e]) rfl rfl
    refine ⟨nums2 rfl rfl h_0 h_1, ?_⟩
    rw [e1, e2]
  · cases hc
def c81 : Con
  | [.agg [.v (.int .i64 v), .v (.bool f)], .agg [.v (.int .i64 u), .v (.bool e)]] => some ([inR v, inR u], nu (whV v - whV u) (whF v f || whF u e))
  | _ => none
theorem con81 : ConOK Tryz.prog 81 c81 := ConOK.of (G := [(92, c92), (159, c159)]) (H := [(1, ⟨[(5, .slot 4)], []⟩)]) (.cons con92 (.cons con159 .nil)) Tryz.func81 fun l ob r hc hob => by
  unfold c81 at hc
  split at hc
  · rename_i v f u e
    cases hc
    have h_0 : inR v := hob _ (by simp)
    have h_1 : inR u := hob _ (by simp)
    refine ⟨by kernel_rfl, fnVC_go (rs := [.cell 4 24]) rfl rfl ?_⟩
    simp only [go_sem, c92, c159]
    simp only [forall_eq]
    have k := whV_rg h_1
    have k2 : rg (-whV u) := by unfold rg at *; omega
    refine ⟨h_1, nums2 rfl rfl h_0 (rg_inR k2), ?_⟩
    obtain ⟨e1, e2⟩ := sum2 (g := rowsOf 2 [i64 v, bo f, i64 (-whV u), bo (whF u e)]) rfl rfl
    rw [e1, e2, whV_of k2, whF_of k2]
    rfl
  · cases hc
def c95 : Con
  | [.agg [.v (.int .i64 x), .v (.bool f)], .agg [.v (.int .i64 l), .v (.bool p)], .agg [.v (.int .i64 h), .v (.bool q)]] => some ([inR x, inR l, inR h], .agg [i64 (max (whV l) (min (whV x) (whV h))), bo (whF l p || (whF x f || whF h q))])
  | _ => none
theorem con95 : ConOK Tryz.prog 95 c95 := ConOK.of (G := [(165, c165), (78, c78)]) (H := [(1, ⟨[(7, .slot 6)], []⟩)]) (.cons con165 (.cons con78 .nil)) Tryz.func95 fun l ob r hc hob => by
  unfold c95 at hc
  split at hc
  · rename_i x f l p h q
    cases hc
    have h_0 : inR x := hob _ (by simp)
    have h_1 : inR l := hob _ (by simp)
    have h_2 : inR h := hob _ (by simp)
    refine ⟨by kernel_rfl, fnVC_go (rs := [.cell 6 24]) rfl rfl ?_⟩
    simp only [go_sem, c165, c78]
    intro z hz z1 hz1
    refine ⟨nums2 rfl rfl h_0 h_2, fun z2 hz2 z3 hz3 => ?_⟩
    rw [mo2 rfl rfl] at hz
    rw [(sum2 (a := x) (b := h) (e := f) (f := q) rfl rfl).2] at hz1
    have kx := whV_rg h_0
    have kl := whV_rg h_1
    have kh := whV_rg h_2
    have kz : rg z := by rw [hz]; split <;> assumption
    refine ⟨nums2 rfl rfl h_1 (rg_inR kz), ?_⟩
    rw [mo2 rfl rfl, whV_of kz] at hz2
    rw [(sum2 (a := l) (b := z) (e := p) (f := z1) rfl rfl).2, whF_of kz] at hz3
    refine agg2 (i64_eq ?_) (bo_eq (by rw [hz3, hz1]))
    rw [hz2, hz]
    simp only [Int.reduceNeg]
    have e1 : ((1 : Int) = -1) = False := by decide
    have e2 : ((-1 : Int) = 1) = False := by decide
    simp only [e1, e2, eq_self, true_and, false_and, or_false, false_or, Int.max_def, Int.min_def]
    repeat' split
    all_goals omega
  · cases hc
def c197 : Con
  | [.v (.int .i64 v)] => some ([], .agg [i64 (whV v), bo (whF v false)])
  | _ => none
theorem con197 : ConOK Tryz.prog 197 c197 := ConOK.of (G := [(100, c100)]) (H := []) (.cons con100 .nil) Tryz.func197 fun l ob r hc hob => by
  unfold c197 at hc
  split at hc
  · rename_i v
    cases hc
    refine ⟨by kernel_rfl, fnVC_go (rs := [.cell 2 24]) rfl rfl ?_⟩
    simp only [go_sem, c100]
    simp only [forall_eq]
  · cases hc
/-- The angle between -Half and Half. -/
def wpV (v : Int) : Int := if 13493037704 < v.tmod 26986075409 then v.tmod 26986075409 - 26986075409 else if v.tmod 26986075409 < -13493037704 then v.tmod 26986075409 + 26986075409 else v.tmod 26986075409
def c267 : Con
  | [.agg [.v (.int .i64 v), .v (.bool f)]] => some ([inR v], .agg [i64 (wpV (whV v)), bo (whF v f)])
  | _ => none
theorem con267 : ConOK Tryz.prog 267 c267 := ConOK.of (G := [(100, c100)]) (H := []) (.cons con100 .nil) Tryz.func267 fun l ob r hc hob => by
  unfold c267 at hc
  split at hc
  · rename_i v f
    cases hc
    have h_0 : inR v := hob _ (by simp)
    refine ⟨by kernel_rfl, fnVC_go (rs := [.cell 2 24]) rfl rfl ?_⟩
    simp only [go_sem, c100]
    simp only [forall_eq]
    have h1 := Int.tmod_lt_of_pos (whV v) (show (0 : Int) < 26986075409 by decide)
    have h2 : -26986075409 < (whV v).tmod 26986075409 := by
      have := Int.neg_emod_two
      rcases Int.le_total 0 (whV v) with h | h
      · have := Int.tmod_nonneg 26986075409 h; omega
      · have e : (whV v).tmod 26986075409 = -((-whV v).tmod 26986075409) := by rw [Int.neg_tmod, Int.neg_neg]
        have := Int.tmod_lt_of_pos (-whV v) (show (0 : Int) < 26986075409 by decide)
        omega
    unfold wpV
    generalize (whV v).tmod 26986075409 = t at *
    rw [wrap_in (x := t - 26986075409) (by unfold inR; omega), wrap_in (x := t + 26986075409) (by unfold inR; omega), wrap_in (x := t - 26986075409 + 26986075409) (by unfold inR; omega)]
    refine ⟨fun h => ⟨fun h3 => agg2 (i64_eq (by rw [if_pos h]; omega)) rfl, fun h3 => agg2 (i64_eq (by rw [if_pos h])) rfl⟩, fun h => ⟨fun h3 => agg2 (i64_eq (by rw [if_neg h, if_pos h3])) rfl, fun h3 => agg2 (i64_eq (by rw [if_neg h, if_neg h3])) rfl⟩⟩
  · cases hc

/-! ### Sines -/
abbrev Nb := Int × Bool
def nMul (a b : Nb) : Nb := (ftV ((whV a.1 * whV b.1).tdiv 4294967296), ftF ((whV a.1 * whV b.1).tdiv 4294967296) || (whF a.1 a.2 || whF b.1 b.2))
def nInt (n : Int) : Nb := (ftV (n * 4294967296), ftF (n * 4294967296) || false)
def nDiv (a b : Nb) : Nb := (raV (whV a.1) (whV b.1), raF (whV a.1) (whV b.1) || (whF a.1 a.2 || whF b.1 b.2))
def nNeg (a : Nb) : Nb := (-whV a.1, whF a.1 a.2)
def nAdd (a b : Nb) : Nb := (ftV (whV a.1 + whV b.1), ftF (whV a.1 + whV b.1) || (whF a.1 a.2 || whF b.1 b.2))
def snT (y : Nb) : Nat → Nb
  | 0 => y
  | k + 1 => nNeg (nDiv (nMul (nMul (snT y k) y) y) (nInt (2 * ((k : Int) + 1) * (2 * ((k : Int) + 1) + 1))))
def snS (y : Nb) : Nat → Nb
  | 0 => y
  | k + 1 => nAdd (snS y k) (snT y (k + 1))
theorem nMul_rg {a b : Nb} : rg (nMul a b).1 := ftV_rg _
theorem nInt_rg {n : Int} : rg (nInt n).1 := ftV_rg _
theorem nDiv_rg {a b : Nb} : rg (nDiv a b).1 := raV_rg
theorem nNeg_rg {a : Nb} (h : inR a.1) : rg (nNeg a).1 := by have := whV_rg h; unfold nNeg rg at *; dsimp only; omega
theorem nAdd_rg {a b : Nb} : rg (nAdd a b).1 := ftV_rg _
theorem snT_in {y : Nb} (h : inR y.1) : ∀ k, inR (snT y k).1
  | 0 => h
  | k + 1 => rg_inR (nNeg_rg (rg_inR nDiv_rg))
theorem snS_in {y : Nb} (h : inR y.1) : ∀ k, inR (snS y k).1
  | 0 => h
  | k + 1 => rg_inR nAdd_rg
/-- Turned into the first quarters. -/
def qtV (y : Int) : Int := if (if 6746518852 < y then 13493037704 - y else y) < -6746518852 then -13493037704 - (if 6746518852 < y then 13493037704 - y else y) else (if 6746518852 < y then 13493037704 - y else y)
theorem wpV_le {v : Int} : -13493037704 ≤ wpV v ∧ wpV v ≤ 13493037704 := by
  have h1 := Int.tmod_lt_of_pos v (show (0 : Int) < 26986075409 by decide)
  have h2 : -26986075409 < v.tmod 26986075409 := by
    rcases Int.le_total 0 v with h | h
    · have := Int.tmod_nonneg 26986075409 h; omega
    · have e : v.tmod 26986075409 = -((-v).tmod 26986075409) := by rw [Int.neg_tmod, Int.neg_neg]
      have := Int.tmod_lt_of_pos (-v) (show (0 : Int) < 26986075409 by decide)
      omega
  unfold wpV
  split
  · omega
  · split <;> omega
def snY (v : Int) (f : Bool) : Nb := (qtV (wpV (whV v)), whF v f)
def snV (v : Int) (f : Bool) : Int := max (-4294967296) (min (whV (snS (snY v f) 8).1) 4294967296)
def snF (v : Int) (f : Bool) : Bool := whF (snS (snY v f) 8).1 (snS (snY v f) 8).2
def c227 : Con
  | [.agg [.v (.int .i64 v), .v (.bool f)]] => some ([inR v], .agg [i64 (snV v f), bo (snF v f)])
  | _ => none
theorem con227 : ConOK Tryz.prog 227 c227 := ConOK.of (G := [(267, c267), (27, c27), (143, c143), (80, c80), (92, c92), (79, c79), (95, c95)]) (H := [(6, ⟨[(4, .made 2), (5, .made 3)], [(1, [.made 2])]⟩), (10, ⟨[(14, .slot 4)], []⟩)]) (.cons con267 (.cons con27 (.cons con143 (.cons con80 (.cons con92 (.cons con79 (.cons con95 .nil))))))) Tryz.func227 fun l ob r hc hob => by
  unfold c227 at hc
  split at hc
  · rename_i v f
    cases hc
    have h_0 : inR v := hob _ (by simp)
    refine ⟨by kernel_rfl, fnVC_go (rs := [.cell 2 24]) rfl rfl ?_⟩
    simp only [go_sem, c267]
    intro z hz z1 hz1
    have hw := wpV_le (v := whV v)
    rw [← hz] at hw
    obtain ⟨y, hy⟩ : ∃ y : Nb, y = snY v f := ⟨_, rfl⟩
    have y2 : z1 = y.2 := by rw [hy]; exact hz1
    have yq : y.1 = qtV z := by rw [hy, hz]; rfl
    have yi : inR y.1 := by rw [yq]; unfold qtV inR; (repeat' split) <;> omega
    have ev : snV v f = max (-4294967296) (min (whV (snS y 8).1) 4294967296) := by rw [hy]; rfl
    have ef : snF v f = whF (snS y 8).1 (snS y 8).2 := by rw [hy]; rfl
    rw [ev, ef]
    clear ev ef hy hz hz1
    refine ⟨h_0, fun h z2 hz2 => ⟨fun h2 => ?_, fun h2 => ?_⟩, fun h => ⟨fun h2 z3 hz3 => ?_, fun h2 => ?_⟩⟩
    · exfalso
      rw [hz2, wrap_in (by unfold inR; omega)] at h2; omega
    · have e : z2 = y.1 := by rw [hz2, wrap_in (by unfold inR; omega), yq]; unfold qtV; rw [if_pos h, if_neg (by omega)]
      subst e
      subst y2
      refine loopC_go (fun (k : Nat) => k ≤ 8) (fun k => 8 - k) (fun k => [(6, i64 ((k : Int) + 1))]) (fun k => [(20, fam1 24 2 [i64 (snS y k).1, bo (snS y k).2] none), (19, fam1 24 2 [i64 (snT y k).1, bo (snT y k).2] none)]) [4, 1, 0] [25, 26, 29, 30, 31, 32, 33, 34, 35, 36, 37, 38, 39, 40, 41, 42, 43, 44, 45, 27, 28, 6] 0 (by kernel_rfl) ?_ (Nat.zero_le _) ?_ ?_
      · intro x _; simp [goodNames, asg]
      · simp only [go_sem, snT, snS]
      intro k hk
      simp only [go_sem, c27, c143, c80, c92, c79, c95]
      refine ⟨fun hk8 => ?_, fun hk8 => ?_⟩
      · have n1 : 0 ≤ 2 * ((k : Int) + 1) * (2 * ((k : Int) + 1) + 1) := Int.mul_nonneg (by omega) (by omega)
        have n2 : 2 * ((k : Int) + 1) * (2 * ((k : Int) + 1) + 1) ≤ 16 * 17 := Int.mul_le_mul (by omega) (by omega) (by omega) (by omega)
        have w1 : IntKind.i64.wrap (2 * ((k : Int) + 1)) = 2 * ((k : Int) + 1) := wrap_in (by unfold inR; omega)
        have w2 : IntKind.i64.wrap (2 * ((k : Int) + 1) + 1) = 2 * ((k : Int) + 1) + 1 := wrap_in (by unfold inR; omega)
        have w3 : IntKind.i64.wrap (2 * ((k : Int) + 1) * (2 * ((k : Int) + 1) + 1)) = 2 * ((k : Int) + 1) * (2 * ((k : Int) + 1) + 1) := wrap_in (by unfold inR; omega)
        have w4 : IntKind.i64.wrap ((k : Int) + 1 + 1) = ((k + 1 : Nat) : Int) + 1 := by rw [wrap_in (by unfold inR; omega)]; rfl
        simp only [forall_eq, w1, w2, w3, w4]
        exact ⟨snT_in yi k, yi, rg_inR (ftV_rg _), yi, by unfold inR; omega, rg_inR (ftV_rg _), rg_inR (ftV_rg _), rg_inR raV_rg, snS_in yi k, rg_inR (nNeg_rg (a := nDiv (nMul (nMul (snT y k) y) y) (nInt (2 * ((k : Int) + 1) * (2 * ((k : Int) + 1) + 1)))) (rg_inR nDiv_rg)), k + 1, by omega, by omega, rfl, ⟨rfl, rfl⟩, rfl, rfl⟩
      · have e8 : k = 8 := by omega
        subst e8
        have c1 : whV (-4294967296) = -4294967296 := by decide
        have c2 : whV 4294967296 = 4294967296 := by decide
        have c3 : whF (-4294967296) false = false := by decide
        have c4 : whF 4294967296 false = false := by decide
        simp only [forall_eq, c1, c2, c3, c4, Bool.false_or, Bool.or_false]
        exact ⟨snS_in yi 8, by unfold inR; omega, by unfold inR; omega, trivial⟩
    · have e : z3 = y.1 := by rw [hz3, wrap_in (by unfold inR; omega), yq]; unfold qtV; rw [if_neg h, if_pos h2]
      subst e
      subst y2
      refine loopC_go (fun (k : Nat) => k ≤ 8) (fun k => 8 - k) (fun k => [(6, i64 ((k : Int) + 1))]) (fun k => [(20, fam1 24 2 [i64 (snS y k).1, bo (snS y k).2] none), (19, fam1 24 2 [i64 (snT y k).1, bo (snT y k).2] none)]) [4, 1, 0] [25, 26, 29, 30, 31, 32, 33, 34, 35, 36, 37, 38, 39, 40, 41, 42, 43, 44, 45, 27, 28, 6] 0 (by kernel_rfl) ?_ (Nat.zero_le _) ?_ ?_
      · intro x _; simp [goodNames, asg]
      · simp only [go_sem, snT, snS]
      intro k hk
      simp only [go_sem, c27, c143, c80, c92, c79, c95]
      refine ⟨fun hk8 => ?_, fun hk8 => ?_⟩
      · have n1 : 0 ≤ 2 * ((k : Int) + 1) * (2 * ((k : Int) + 1) + 1) := Int.mul_nonneg (by omega) (by omega)
        have n2 : 2 * ((k : Int) + 1) * (2 * ((k : Int) + 1) + 1) ≤ 16 * 17 := Int.mul_le_mul (by omega) (by omega) (by omega) (by omega)
        have w1 : IntKind.i64.wrap (2 * ((k : Int) + 1)) = 2 * ((k : Int) + 1) := wrap_in (by unfold inR; omega)
        have w2 : IntKind.i64.wrap (2 * ((k : Int) + 1) + 1) = 2 * ((k : Int) + 1) + 1 := wrap_in (by unfold inR; omega)
        have w3 : IntKind.i64.wrap (2 * ((k : Int) + 1) * (2 * ((k : Int) + 1) + 1)) = 2 * ((k : Int) + 1) * (2 * ((k : Int) + 1) + 1) := wrap_in (by unfold inR; omega)
        have w4 : IntKind.i64.wrap ((k : Int) + 1 + 1) = ((k + 1 : Nat) : Int) + 1 := by rw [wrap_in (by unfold inR; omega)]; rfl
        simp only [forall_eq, w1, w2, w3, w4]
        exact ⟨snT_in yi k, yi, rg_inR (ftV_rg _), yi, by unfold inR; omega, rg_inR (ftV_rg _), rg_inR (ftV_rg _), rg_inR raV_rg, snS_in yi k, rg_inR (nNeg_rg (a := nDiv (nMul (nMul (snT y k) y) y) (nInt (2 * ((k : Int) + 1) * (2 * ((k : Int) + 1) + 1)))) (rg_inR nDiv_rg)), k + 1, by omega, by omega, rfl, ⟨rfl, rfl⟩, rfl, rfl⟩
      · have e8 : k = 8 := by omega
        subst e8
        have c1 : whV (-4294967296) = -4294967296 := by decide
        have c2 : whV 4294967296 = 4294967296 := by decide
        have c3 : whF (-4294967296) false = false := by decide
        have c4 : whF 4294967296 false = false := by decide
        simp only [forall_eq, c1, c2, c3, c4, Bool.false_or, Bool.or_false]
        exact ⟨snS_in yi 8, by unfold inR; omega, by unfold inR; omega, trivial⟩
    · have e : z = y.1 := by rw [yq]; unfold qtV; rw [if_neg h, if_neg h2]
      subst e
      subst y2
      refine loopC_go (fun (k : Nat) => k ≤ 8) (fun k => 8 - k) (fun k => [(6, i64 ((k : Int) + 1))]) (fun k => [(15, fam1 24 2 [i64 (snS y k).1, bo (snS y k).2] none), (14, fam1 24 2 [i64 (snT y k).1, bo (snT y k).2] none)]) [4, 1, 0] [25, 26, 29, 30, 31, 32, 33, 34, 35, 36, 37, 38, 39, 40, 41, 42, 43, 44, 45, 27, 28, 6] 0 (by kernel_rfl) ?_ (Nat.zero_le _) ?_ ?_
      · intro x _; simp [goodNames, asg]
      · simp only [go_sem, snT, snS]
      intro k hk
      simp only [go_sem, c27, c143, c80, c92, c79, c95]
      refine ⟨fun hk8 => ?_, fun hk8 => ?_⟩
      · have n1 : 0 ≤ 2 * ((k : Int) + 1) * (2 * ((k : Int) + 1) + 1) := Int.mul_nonneg (by omega) (by omega)
        have n2 : 2 * ((k : Int) + 1) * (2 * ((k : Int) + 1) + 1) ≤ 16 * 17 := Int.mul_le_mul (by omega) (by omega) (by omega) (by omega)
        have w1 : IntKind.i64.wrap (2 * ((k : Int) + 1)) = 2 * ((k : Int) + 1) := wrap_in (by unfold inR; omega)
        have w2 : IntKind.i64.wrap (2 * ((k : Int) + 1) + 1) = 2 * ((k : Int) + 1) + 1 := wrap_in (by unfold inR; omega)
        have w3 : IntKind.i64.wrap (2 * ((k : Int) + 1) * (2 * ((k : Int) + 1) + 1)) = 2 * ((k : Int) + 1) * (2 * ((k : Int) + 1) + 1) := wrap_in (by unfold inR; omega)
        have w4 : IntKind.i64.wrap ((k : Int) + 1 + 1) = ((k + 1 : Nat) : Int) + 1 := by rw [wrap_in (by unfold inR; omega)]; rfl
        simp only [forall_eq, w1, w2, w3, w4]
        exact ⟨snT_in yi k, yi, rg_inR (ftV_rg _), yi, by unfold inR; omega, rg_inR (ftV_rg _), rg_inR (ftV_rg _), rg_inR raV_rg, snS_in yi k, rg_inR (nNeg_rg (a := nDiv (nMul (nMul (snT y k) y) y) (nInt (2 * ((k : Int) + 1) * (2 * ((k : Int) + 1) + 1)))) (rg_inR nDiv_rg)), k + 1, by omega, by omega, rfl, ⟨rfl, rfl⟩, rfl, rfl⟩
      · have e8 : k = 8 := by omega
        subst e8
        have c1 : whV (-4294967296) = -4294967296 := by decide
        have c2 : whV 4294967296 = 4294967296 := by decide
        have c3 : whF (-4294967296) false = false := by decide
        have c4 : whF 4294967296 false = false := by decide
        simp only [forall_eq, c1, c2, c3, c4, Bool.false_or, Bool.or_false]
        exact ⟨snS_in yi 8, by unfold inR; omega, by unfold inR; omega, trivial⟩
  · cases hc
theorem snV_rg {v : Int} {f : Bool} : rg (snV v f) := by unfold snV rg; omega
def csV (v : Int) (f : Bool) : Int := snV (nAdd (wpV (whV v), whF v f) (6746518852, false)).1 (nAdd (wpV (whV v), whF v f) (6746518852, false)).2
def csF (v : Int) (f : Bool) : Bool := snF (nAdd (wpV (whV v), whF v f) (6746518852, false)).1 (nAdd (wpV (whV v), whF v f) (6746518852, false)).2
def c226 : Con
  | [.agg [.v (.int .i64 v), .v (.bool f)]] => some ([inR v], .agg [i64 (csV v f), bo (csF v f)])
  | _ => none
theorem con226 : ConOK Tryz.prog 226 c226 := ConOK.of (G := [(267, c267), (79, c79), (227, c227)]) (H := []) (.cons con267 (.cons con79 (.cons con227 .nil))) Tryz.func226 fun l ob r hc hob => by
  unfold c226 at hc
  split at hc
  · rename_i v f
    cases hc
    have h_0 : inR v := hob _ (by simp)
    refine ⟨by kernel_rfl, fnVC_go (rs := [.cell 2 24]) rfl rfl ?_⟩
    simp only [go_sem, c267, c79, c227]
    simp only [forall_eq]
    have hw := wpV_le (v := whV v)
    exact ⟨h_0, by unfold inR; omega, by unfold inR; omega, rg_inR (ftV_rg _), rfl⟩
  · cases hc
end Go.Ax
end

section
/-
  Boxes: what is valid, what meets, what is within, what grows.
-/
set_option linter.unusedVariables false
set_option linter.unusedSimpArgs false
set_option maxHeartbeats 1000000
set_option maxRecDepth 100000
namespace Go.Ax
open Go.Proofs

theorem okX_iff {x : Int} : okX x = true ↔ -2097152 ≤ x ∧ x ≤ 2097152 := by unfold okX; simp
theorem validS_iff {x y : Int} : validS x y = true ↔ -2097152 ≤ x ∧ x ≤ 2097152 ∧ -2097152 ≤ y ∧ y ≤ 2097152 := by
  unfold validS; rw [Bool.and_eq_true, okX_iff, okX_iff]; omega
theorem fairS_iff {n : Nat} {X Y : Nat → Int} : fairS n X Y = true ↔ ∀ i, i < n → validS (X i) (Y i) = true := by unfold fairS; simp
theorem bool_of {a b : Bool} (h : a = true ↔ b = true) : a = b := Bool.eq_iff_iff.2 h
theorem false_of {b : Bool} (h : ¬ b = true) : false = b := by cases b <;> simp_all
theorem bo_inj {a b : Bool} (h : a = b) : bo a = bo b := by rw [h]

def c290 : Con
  | [.ro n 2 g] => some ([spots n g, n ≤ 9223372036854775807], bo (fairS n (gx g 0) (gx g 1)))
  | _ => none
theorem vc290 (n : Nat) (X Y : Nat → Int) (hX : ∀ i, i < n → inR (X i) ∧ inR (Y i)) (hn : n ≤ 9223372036854775807) : fnVC Tryz.prog [] [] Tryz.f290 [.ro n 2 fun i => [i64 (X i), i64 (Y i)]] (· = bo (fairS n X Y)) := by
  refine fnVC_go (rs := [.tmp 2]) rfl rfl ?_
  simp only [go_sem]
  refine loopC_go (fun (i : Nat) => i ≤ n ∧ ∀ k < i, validS (X k) (Y k) = true) (fun i => n - i) (fun i => [(7, i64 i)]) (fun _ => []) [] [8, 9, 10, 4, 11, 12, 13, 14, 15, 16, 17, 18, 19, 20, 21, 22, 23, 24, 25, 26, 27, 28, 29, 30, 31, 32, 2, 33, 7] 0 (by kernel_rfl) ?_ ?_ ?_ ?_
  · intro x _; simp [goodNames]
  · simp
  · simp only [go_sem]
  · intro i hi
    simp only [go_sem]
    obtain ⟨hi1, hi2⟩ := hi
    refine ⟨fun h => ?_, fun h => (fairS_iff.2 fun k hk => hi2 k (by omega)).symm⟩
    have h1 : i < n := by omega
    have hr := hX i h1
    unfold inR at hr
    refine ⟨by omega, h, fun z hz z1 hz1 z2 hz2 => ?_⟩
    rw [wrap_i64] at hz hz1
    have hv := validS_iff (x := X i) (y := Y i)
    refine ⟨fun hb => false_of fun hf => ?_, fun hg z hz => ⟨i + 1, ⟨by omega, fun k hk => ?_⟩, by omega, ?_⟩⟩
    · have := hv.1 (fairS_iff.1 hf i h1)
      omega
    · by_cases e : k = i
      · subst e; exact hv.2 (by omega)
      · exact hi2 k (by omega)
    · rw [wrap_i64] at hz; omega
theorem con290 : ConOK Tryz.prog 290 c290 := ConOK.go (G := []) (H := []) .nil Tryz.func290 fun l ob r hc hob => by
  unfold c290 at hc
  split at hc
  · rename_i n g
    cases hc
    have hs : spots n g := hob _ (by simp)
    refine ⟨[.ro n 2 fun i => [i64 (gx g 0 i), i64 (gx g 1 i)]], fun w I vs h => Rs_one (fun v => ro_alike fun i hi => (hs i hi).1) h, by kernel_rfl, vc290 n _ _ (fun i hi => (hs i hi).2) (hob _ (by simp))⟩
  · cases hc

def c262 : Con
  | [.agg [.v (.int .i64 x), .v (.int .i64 y)]] => some ([], bo (validS x y))
  | _ => none
theorem con262 : ConOK Tryz.prog 262 c262 := ConOK.of (G := []) (H := []) .nil Tryz.func262 fun l ob r hc hob => by
  unfold c262 at hc
  split at hc
  · rename_i x y
    cases hc
    refine ⟨by kernel_rfl, fnVC_go (rs := [.tmp 2]) rfl rfl ?_⟩
    simp only [go_sem]
    unfold validS okX
    rw [Bool.eq_iff_iff]
    simp
    omega
  · cases hc

/-! ### The error of a box -/
def checkBoxS (a b c d : Int) : Int := if validS a b = true ∧ validS c d = true then (if c < a ∨ d < b then 5 else 0) else 3
def c291 : Con
  | [.agg [.v (.int .i64 a), .v (.int .i64 b), .v (.int .i64 c), .v (.int .i64 d)]] => some ([inR a, inR b, inR c, inR d], i64 (checkBoxS a b c d))
  | _ => none
theorem fair2 {a b c d : Int} {g : Nat → List AV} (h0 : g 0 = [i64 a, i64 b]) (h1 : g 1 = [i64 c, i64 d]) : fairS 2 (gx g 0) (gx g 1) = (validS a b && validS c d) := by
  rw [Bool.eq_iff_iff, fairS_iff, Bool.and_eq_true]
  constructor
  · intro h
    have k0 := h 0 (by omega)
    have k1 := h 1 (by omega)
    simp only [gx, h0, h1, gi_0, gi_1] at k0 k1
    exact ⟨k0, k1⟩
  · intro h i hi
    have : i = 0 ∨ i = 1 := by omega
    rcases this with rfl | rfl
    · simp only [gx, h0, gi_0, gi_1]; exact h.1
    · simp only [gx, h1, gi_0, gi_1]; exact h.2
theorem spots2 {a b c d : Int} {g : Nat → List AV} (h0 : g 0 = [i64 a, i64 b]) (h1 : g 1 = [i64 c, i64 d]) (ha : inR a) (hb : inR b) (hc : inR c) (hd : inR d) : spots 2 g := by
  intro i hi
  have : i = 0 ∨ i = 1 := by omega
  rcases this with rfl | rfl
  · simp only [gx, h0, gi_0, gi_1]; exact ⟨trivial, ha, hb⟩
  · simp only [gx, h1, gi_0, gi_1]; exact ⟨trivial, hc, hd⟩
theorem con291 : ConOK Tryz.prog 291 c291 := ConOK.of (G := [(290, c290)]) (H := [(1, ⟨[(12, .made 10), (13, .made 11)], [(6, [.made 10]), (8, [.made 10])]⟩)]) (.cons con290 .nil) Tryz.func291 fun l ob r hc hob => by
  unfold c291 at hc
  split at hc
  · rename_i a b c d
    cases hc
    refine ⟨by kernel_rfl, fnVC_go (rs := [.tmp 2]) rfl rfl ?_⟩
    simp only [go_sem, c290]
    have ha : inR a := hob _ (by simp)
    have hb : inR b := hob _ (by simp)
    have hc : inR c := hob _ (by simp)
    have hd : inR d := hob _ (by simp)
    intro z hz
    refine ⟨spots2 (a := a) (b := b) (c := c) (d := d) rfl rfl ha hb hc hd, ?_⟩
    rw [fair2 (a := a) (b := b) (c := c) (d := d) rfl rfl] at hz
    subst hz
    simp only [checkBoxS, Bool.and_eq_true, Bool.and_eq_false_iff]
    refine ⟨fun h => ?_, fun h => ⟨fun h2 => ?_, fun h2 => ?_⟩⟩
    · rw [if_neg (by rintro ⟨h1, h2⟩; rcases h with h | h <;> simp_all)]
    · rw [if_pos h, if_pos h2]
    · rw [if_pos h, if_neg (by omega)]
  · cases hc
def c263 : Con
  | [.agg [.v (.int .i64 a), .v (.int .i64 b), .v (.int .i64 c), .v (.int .i64 d)]] => some ([], i64 (checkBoxS a b c d))
  | _ => none
theorem con263 : ConOK Tryz.prog 263 c263 := ConOK.of (G := [(262, c262)]) (H := []) (.cons con262 .nil) Tryz.func263 fun l ob r hc hob => by
  unfold c263 at hc
  split at hc
  · rename_i a b c d
    cases hc
    refine ⟨by kernel_rfl, fnVC_go (rs := [.tmp 2]) rfl rfl ?_⟩
    simp only [go_sem, c262]
    intro z hz z1 hz1
    subst hz hz1
    unfold checkBoxS
    refine ⟨fun h => ?_, fun h => ⟨fun h2 => ?_, fun h2 => ?_⟩⟩
    · rw [if_neg (by rintro ⟨h1, h2⟩; rcases h with h | h <;> simp_all)]
    · rw [if_pos h, if_pos h2]
    · rw [if_pos h, if_neg (by omega)]
  · cases hc

/-! ### Boxes that meet -/
theorem checkBoxS_iff {a b c d : Int} : checkBoxS a b c d = 0 ↔ -2097152 ≤ a ∧ a ≤ c ∧ c ≤ 2097152 ∧ -2097152 ≤ b ∧ b ≤ d ∧ d ≤ 2097152 := by
  simp only [checkBoxS, validS_iff]
  split
  · split <;> omega
  · omega
def meetsS (a b c d x y z t : Int) : Bool := decide (checkBoxS a b c d = 0 ∧ checkBoxS x y z t = 0 ∧ a ≤ z ∧ x ≤ c ∧ b ≤ t ∧ y ≤ d)
def c292 : Con
  | [.agg [.v (.int .i64 x), .v (.int .i64 y)], .v (.int .i64 r)] => some ([], .agg [i64 (IntKind.i64.wrap (x - r)), i64 (IntKind.i64.wrap (y - r)), i64 (IntKind.i64.wrap (x + r)), i64 (IntKind.i64.wrap (y + r))])
  | _ => none
theorem con292 : ConOK Tryz.prog 292 c292 := ConOK.of (G := []) (H := []) .nil Tryz.func292 fun l ob r hc hob => by
  unfold c292 at hc
  split at hc
  · cases hc
    refine ⟨by kernel_rfl, fnVC_go (rs := [.cell 4 108]) rfl rfl ?_⟩
    simp only [go_sem]
    intro z h z1 h1 z2 h2 z3 h3
    subst h h1 h2 h3
    rfl
  · cases hc
def withinS (a b c d x y : Int) : Bool := decide (checkBoxS a b c d = 0 ∧ a ≤ x ∧ x ≤ c ∧ b ≤ y ∧ y ≤ d)
def growN (n : Int) : Int := max 0 (min n 4194304)
def growS (a b c d n : Int) (k : Nat) : Int := if checkBoxS a b c d = 0 then (match k with
  | 0 => max (a - growN n) (-2097152)
  | 1 => max (b - growN n) (-2097152)
  | 2 => min (c + growN n) 2097152
  | _ => min (d + growN n) 2097152) else (match k with
  | 0 => a
  | 1 => b
  | 2 => c
  | _ => d)
theorem agg4 {a b c d x y z t : Int} (h1 : a = x) (h2 : b = y) (h3 : c = z) (h4 : d = t) : AV.agg [i64 a, i64 b, i64 c, i64 d] = .agg [i64 x, i64 y, i64 z, i64 t] := by rw [h1, h2, h3, h4]
end Go.Ax
end

section
/-
  The box of several boxes.
-/
set_option linter.unusedVariables false
set_option linter.unusedSimpArgs false
set_option maxHeartbeats 1000000
set_option maxRecDepth 100000
namespace Go.Ax
open Go.Proofs
def boxes (n : Nat) (g : Nat → List AV) : Prop := ∀ i, i < n → g i = [i64 (gx g 0 i), i64 (gx g 1 i), i64 (gx g 2 i), i64 (gx g 3 i)] ∧ inR (gx g 0 i) ∧ inR (gx g 1 i) ∧ inR (gx g 2 i) ∧ inR (gx g 3 i)
def mnS (A : Nat → Int) : Nat → Int
  | 0 => 0
  | i + 1 => if i = 0 then A 0 else min (mnS A i) (A i)
def mxS (A : Nat → Int) : Nat → Int
  | 0 => 0
  | i + 1 => if i = 0 then A 0 else max (mxS A i) (A i)
def okB (n : Nat) (A B C D : Nat → Int) : Prop := ∀ i, i < n → checkBoxS (A i) (B i) (C i) (D i) = 0
instance {n : Nat} {A B C D : Nat → Int} : Decidable (okB n A B C D) := by unfold okB; exact inferInstance
def joinS (n : Nat) (A B C D : Nat → Int) (k : Nat) : Int := if okB n A B C D then (match k with
  | 0 => mnS A n
  | 1 => mnS B n
  | 2 => mxS C n
  | _ => mxS D n) else 0
def c330 : Con
  | [.ro n 4 g] => some ([boxes n g, n ≤ 9223372036854775807], .agg [i64 (joinS n (gx g 0) (gx g 1) (gx g 2) (gx g 3) 0), i64 (joinS n (gx g 0) (gx g 1) (gx g 2) (gx g 3) 1), i64 (joinS n (gx g 0) (gx g 1) (gx g 2) (gx g 3) 2), i64 (joinS n (gx g 0) (gx g 1) (gx g 2) (gx g 3) 3)])
  | _ => none
theorem joinS_ok {n : Nat} {A B C D : Nat → Int} (h : okB n A B C D) : joinS n A B C D 0 = mnS A n ∧ joinS n A B C D 1 = mnS B n ∧ joinS n A B C D 2 = mxS C n ∧ joinS n A B C D 3 = mxS D n := by
  unfold joinS; rw [if_pos h, if_pos h, if_pos h, if_pos h]; exact ⟨rfl, rfl, rfl, rfl⟩
theorem joinS_no {n : Nat} {A B C D : Nat → Int} (h : ¬ okB n A B C D) {k : Nat} : joinS n A B C D k = 0 := by
  simp only [joinS, if_neg h]
theorem okB_succ {i : Nat} {A B C D : Nat → Int} (h : okB i A B C D) (h0 : checkBoxS (A i) (B i) (C i) (D i) = 0) : okB (i + 1) A B C D := fun k hk => by
  by_cases e : k = i
  · subst e; exact h0
  · exact h k (by omega)
theorem vc330 (n : Nat) (A B C D : Nat → Int) (hX : ∀ i, i < n → inR (A i) ∧ inR (B i) ∧ inR (C i) ∧ inR (D i)) (hn : n ≤ 9223372036854775807) : fnVC Tryz.prog [(291, c291)] [(9, ⟨[(11, .slot 3), (13, .slot 3)], [(8, [.slot 3])]⟩), (10, ⟨[(11, .slot 3), (13, .slot 3)], [(8, [.slot 3])]⟩)] Tryz.f330 [.ro n 4 fun i => [i64 (A i), i64 (B i), i64 (C i), i64 (D i)]] (· = .agg [i64 (joinS n A B C D 0), i64 (joinS n A B C D 1), i64 (joinS n A B C D 2), i64 (joinS n A B C D 3)]) := by
  refine fnVC_go (rs := [.cell 2 108]) rfl rfl ?_
  simp only [go_sem]
  refine loopC_go (fun (i : Nat) => i ≤ n ∧ okB i A B C D) (fun i => n - i) (fun i => [(8, i64 i)]) (fun i => [(1, fam1 108 4 [i64 (mnS A i), i64 (mnS B i), i64 (mxS C i), i64 (mxS D i)] none)]) [0] [9, 10, 11, 12, 5, 4, 13, 14, 15, 16, 17, 18, 19, 20, 21, 22, 23, 24, 25, 26, 27, 28, 29, 30, 31, 32, 33, 34, 35, 36, 37, 38, 39, 40, 41, 42, 43, 44, 8] 0 (by kernel_rfl) ?_ ?_ ?_ ?_
  · intro x _; simp [goodNames, asg]
  · simp [okB]
  · simp only [go_sem]; simp [mnS, mxS]
  · intro i hi
    simp only [go_sem, c291]
    obtain ⟨hi1, hi2⟩ := hi
    refine ⟨fun h => ?_, fun h => ?_⟩
    · have h1 : i < n := by omega
      obtain ⟨r1, r2, r3, r4⟩ := hX i h1
      refine ⟨by omega, h, fun z hz => ⟨r1, r2, r3, r4, fun hb => ?_, fun hb => ?_⟩⟩
      · have hno : ¬ okB n A B C D := fun hf => by
          have := hf i h1
          rw [← hz] at this
          simp [this] at hb
        simp only [joinS_no hno]
      · have hz0 : checkBoxS (A i) (B i) (C i) (D i) = 0 := by rw [← hz]; simpa using hb
        have hok := okB_succ hi2 hz0
        refine ⟨fun h0 z hz' z1 k1 z2 k2 z3 k3 z4 k4 => ⟨i + 1, ⟨by omega, hok⟩, by omega, by rw [wrap_i64] at k4; omega, ?_⟩, fun h0 z hz' z1 k1 z2 k2 z3 k3 z4 k4 => ⟨i + 1, ⟨by omega, hok⟩, by omega, by rw [wrap_i64] at k4; omega, ?_⟩⟩
        · have e : i = 0 := by simpa using h0
          subst e
          simp only [mnS, mxS, if_true]
          omega
        · have e : ¬ i = 0 := by simpa using h0
          simp only [mnS, mxS, if_neg e]
          exact ⟨hz', k1, k2, k3⟩
    · have e : i = n := by omega
      subst e
      obtain ⟨j1, j2, j3, j4⟩ := joinS_ok hi2
      rw [j1, j2, j3, j4]
theorem vc217 (n : Nat) (A B C D : Nat → Int) (hX : ∀ i, i < n → inR (A i) ∧ inR (B i) ∧ inR (C i) ∧ inR (D i)) (hn : n ≤ 9223372036854775807) : fnVC Tryz.prog [(263, c263)] [(9, ⟨[(33, .slot 3)], []⟩)] Tryz.f217 [.ro n 4 fun i => [i64 (A i), i64 (B i), i64 (C i), i64 (D i)]] (· = .agg [i64 (joinS n A B C D 0), i64 (joinS n A B C D 1), i64 (joinS n A B C D 2), i64 (joinS n A B C D 3)]) := by
  refine fnVC_go (rs := [.cell 2 108]) rfl rfl ?_
  simp only [go_sem]
  refine loopC_go (fun (i : Nat) => i ≤ n ∧ okB i A B C D) (fun i => n - i) (fun i => [(4, i64 i)]) (fun i => [(2, fam1 108 4 [i64 (mnS A i), i64 (mnS B i), i64 (mxS C i), i64 (mxS D i)] none)]) [0] [6, 7, 8, 9, 12, 13, 14, 15, 16, 17, 18, 19, 20, 21, 22, 23, 24, 25, 26, 27, 28, 29, 30, 31, 32, 33, 34, 35, 36, 37, 38, 39, 40, 41, 42, 43, 44, 45, 46, 47, 48, 49, 50, 51, 52, 53, 54, 55, 56, 10, 11, 4] 0 (by kernel_rfl) ?_ ?_ ?_ ?_
  · intro x _; simp [goodNames, asg]
  · simp [okB]
  · simp only [go_sem]; simp [mnS, mxS]
  · intro i hi
    simp only [go_sem, c263]
    obtain ⟨hi1, hi2⟩ := hi
    refine ⟨fun h => ?_, fun h => ?_⟩
    · have h1 : i < n := by omega
      refine ⟨by omega, h, fun z hz => ⟨fun hb => ?_, fun hb => ?_⟩⟩
      · have hno : ¬ okB n A B C D := fun hf => by
          have := hf i h1
          rw [← hz] at this
          simp [this] at hb
        simp only [joinS_no hno]
      · have hz0 : checkBoxS (A i) (B i) (C i) (D i) = 0 := by rw [← hz]; simpa using hb
        have hok := okB_succ hi2 hz0
        refine ⟨fun h0 => ⟨by omega, fun z4 k4 => ⟨i + 1, ⟨by omega, hok⟩, by omega, by rw [wrap_i64] at k4; omega, ?_⟩⟩, fun h0 => ⟨by omega, h, fun z hz' => ⟨by omega, h, fun z1 k1 => ⟨by omega, h, fun z2 k2 => ⟨by omega, h, fun z3 k3 z4 k4 => ⟨i + 1, ⟨by omega, hok⟩, by omega, by rw [wrap_i64] at k4; omega, ?_⟩⟩⟩⟩⟩⟩
        · have e : i = 0 := by simpa using h0
          subst e
          simp only [mnS, mxS, if_true, and_self]
        · have e : ¬ i = 0 := by simpa using h0
          simp only [mnS, mxS, if_neg e]
          exact ⟨hz', k1, k2, k3⟩
    · have e : i = n := by omega
      subst e
      obtain ⟨j1, j2, j3, j4⟩ := joinS_ok hi2
      rw [j1, j2, j3, j4]
theorem con330 : ConOK Tryz.prog 330 c330 := ConOK.go (G := [(291, c291)]) (H := [(9, ⟨[(11, .slot 3), (13, .slot 3)], [(8, [.slot 3])]⟩), (10, ⟨[(11, .slot 3), (13, .slot 3)], [(8, [.slot 3])]⟩)]) (.cons con291 .nil) Tryz.func330 fun l ob r hc hob => by
  unfold c330 at hc
  split at hc
  · rename_i n g
    cases hc
    have hs : boxes n g := hob _ (by simp)
    exact ⟨[.ro n 4 fun i => [i64 (gx g 0 i), i64 (gx g 1 i), i64 (gx g 2 i), i64 (gx g 3 i)]], fun w I vs h => Rs_one (fun v => ro_alike fun i hi => (hs i hi).1) h, by kernel_rfl, vc330 n _ _ _ _ (fun i hi => (hs i hi).2) (hob _ (by simp))⟩
  · cases hc
def c217 : Con := c330
theorem con217 : ConOK Tryz.prog 217 c217 := ConOK.go (G := [(263, c263)]) (H := [(9, ⟨[(33, .slot 3)], []⟩)]) (.cons con263 .nil) Tryz.func217 fun l ob r hc hob => by
  unfold c217 c330 at hc
  split at hc
  · rename_i n g
    cases hc
    have hs : boxes n g := hob _ (by simp)
    exact ⟨[.ro n 4 fun i => [i64 (gx g 0 i), i64 (gx g 1 i), i64 (gx g 2 i), i64 (gx g 3 i)]], fun w I vs h => Rs_one (fun v => ro_alike fun i hi => (hs i hi).1) h, by kernel_rfl, vc217 n _ _ _ _ (fun i hi => (hs i hi).2) (hob _ (by simp))⟩
  · cases hc

/-! ### Spots and boxes that numbers make -/
/-- A remainder that is not below 0. -/
def modS (n m : Int) : Int := if n.tmod m < 0 then n.tmod m + m else n.tmod m
def c31 : Con
  | [.v (.int .i64 n), .v (.int .i64 m)] => some ([0 < m, inR n, inR m], i64 (modS n m))
  | _ => none
theorem con31 : ConOK Tryz.prog 31 c31 := ConOK.of (G := []) (H := []) .nil Tryz.func31 fun l ob r hc hob => by
  unfold c31 at hc
  split at hc
  · rename_i n m
    cases hc
    refine ⟨by kernel_rfl, fnVC_go (rs := [.tmp 4]) rfl rfl ?_⟩
    have h0 : 0 < m := hob _ (by simp)
    have h1 : inR n := hob _ (by simp)
    have h2 : inR m := hob _ (by simp)
    simp only [go_sem]
    refine ⟨by omega, fun z hz => ⟨fun hn z1 k1 => ?_, fun hn => ?_⟩⟩
    · have hb : -m < z := by rw [hz]; have := Int.lt_tmod_of_pos n h0; omega
      unfold inR at h2
      rw [wrap_in (by unfold inR; omega)] at k1
      unfold modS
      rw [← hz, if_pos hn, k1]
    · unfold modS
      rw [← hz, if_neg hn]
  · cases hc

/-! ### Sides -/
theorem mul_bd {x y A B : Int} (hA : 0 ≤ A) (hx : -A ≤ x ∧ x ≤ A) (hy : -B ≤ y ∧ y ≤ B) : -(A * B) ≤ x * y ∧ x * y ≤ A * B := by
  have h1 : (x * y).natAbs = x.natAbs * y.natAbs := Int.natAbs_mul x y
  have h2 : x.natAbs * y.natAbs ≤ A.natAbs * B.natAbs := Nat.mul_le_mul (by omega) (by omega)
  have h3 : (A * B).natAbs = A.natAbs * B.natAbs := Int.natAbs_mul A B
  have h4 : 0 ≤ A * B := Int.mul_nonneg hA (by omega)
  omega
/-- An even smaller number. -/
def sm (x : Int) : Prop := -4194304 ≤ x ∧ x ≤ 4194304
theorem sm_mul {x y : Int} (hx : sm x) (hy : sm y) : -17592186044416 ≤ x * y ∧ x * y ≤ 17592186044416 := by
  have := mul_bd (A := 4194304) (B := 4194304) (by omega) hx hy
  omega
def c307 : Con
  | [.agg [.v (.int .i64 a), .v (.int .i64 b)], .agg [.v (.int .i64 c), .v (.int .i64 d)]] => some ([], .agg [i64 (IntKind.i64.wrap (c - a)), i64 (IntKind.i64.wrap (d - b))])
  | _ => none
theorem con307 : ConOK Tryz.prog 307 c307 := ConOK.of (G := []) (H := []) .nil Tryz.func307 fun l ob r hc hob => by
  unfold c307 at hc
  split at hc
  · cases hc
    refine ⟨by kernel_rfl, fnVC_go (rs := [.cell 4 101]) rfl rfl ?_⟩
    simp only [go_sem]
    intro z h z1 h1
    subst h h1
    rfl
  · cases hc
def c268 : Con
  | [.agg [.v (.int .i64 a), .v (.int .i64 b)], .agg [.v (.int .i64 c), .v (.int .i64 d)]] => some ([], .agg [i64 (IntKind.i64.wrap (a - c)), i64 (IntKind.i64.wrap (b - d))])
  | _ => none
theorem con268 : ConOK Tryz.prog 268 c268 := ConOK.of (G := []) (H := []) .nil Tryz.func268 fun l ob r hc hob => by
  unfold c268 at hc
  split at hc
  · cases hc
    refine ⟨by kernel_rfl, fnVC_go (rs := [.cell 4 101]) rfl rfl ?_⟩
    simp only [go_sem]
    intro z h z1 h1
    subst h h1
    rfl
  · cases hc
def c306 : Con
  | [.agg [.v (.int .i64 a), .v (.int .i64 b)], .agg [.v (.int .i64 c), .v (.int .i64 d)]] => some ([], i64 (IntKind.i64.wrap (IntKind.i64.wrap (a * d) - IntKind.i64.wrap (b * c))))
  | _ => none
theorem con306 : ConOK Tryz.prog 306 c306 := ConOK.of (G := []) (H := []) .nil Tryz.func306 fun l ob r hc hob => by
  unfold c306 at hc
  split at hc
  · cases hc
    refine ⟨by kernel_rfl, fnVC_go (rs := [.tmp 4]) rfl rfl ?_⟩
    simp only [go_sem]
    intro z h z1 h1 z2 h2
    rw [h2, h1, h]
  · cases hc
theorem con296 : ConOK Tryz.prog 296 c306 := ConOK.of (G := []) (H := []) .nil Tryz.func296 fun l ob r hc hob => by
  unfold c306 at hc
  split at hc
  · cases hc
    refine ⟨by kernel_rfl, fnVC_go (rs := [.tmp 4]) rfl rfl ?_⟩
    simp only [go_sem]
    intro z h z1 h1 z2 h2
    rw [h2, h1, h]
  · cases hc
/-- (b - a) x (c - a). -/
def turnS (ax ay bx byy cx cy : Int) : Int := (bx - ax) * (cy - ay) - (byy - ay) * (cx - ax)
theorem turn_wrap {ax ay bx byy cx cy : Int} (ha : validS ax ay = true) (hb : validS bx byy = true) (hc : validS cx cy = true) :
    IntKind.i64.wrap (IntKind.i64.wrap (IntKind.i64.wrap (bx - ax) * IntKind.i64.wrap (cy - ay)) - IntKind.i64.wrap (IntKind.i64.wrap (byy - ay) * IntKind.i64.wrap (cx - ax))) = turnS ax ay bx byy cx cy := by
  rw [validS_iff] at ha hb hc
  rw [wrap_in (x := bx - ax) (by unfold inR; omega), wrap_in (x := cy - ay) (by unfold inR; omega), wrap_in (x := byy - ay) (by unfold inR; omega), wrap_in (x := cx - ax) (by unfold inR; omega)]
  have h1 := sm_mul (x := bx - ax) (y := cy - ay) (by unfold sm; omega) (by unfold sm; omega)
  have h2 := sm_mul (x := byy - ay) (y := cx - ax) (by unfold sm; omega) (by unfold sm; omega)
  rw [wrap_in (x := (bx - ax) * (cy - ay)) (by unfold inR; omega), wrap_in (x := (byy - ay) * (cx - ax)) (by unfold inR; omega), wrap_in (by unfold inR; omega)]
  rfl
def c303 : Con
  | [.agg [.v (.int .i64 a), .v (.int .i64 b)], .agg [.v (.int .i64 c), .v (.int .i64 d)], .agg [.v (.int .i64 e), .v (.int .i64 f)]] => some ([validS a b = true, validS c d = true, validS e f = true], i64 (turnS a b c d e f))
  | _ => none
theorem con303 : ConOK Tryz.prog 303 c303 := ConOK.of (G := [(306, c306), (307, c307)]) (H := []) (.cons con306 (.cons con307 .nil)) Tryz.func303 fun l ob r hc hob => by
  unfold c303 at hc
  split at hc
  · rename_i a b c d e f
    cases hc
    have h1 : validS a b = true := hob _ (by simp)
    have h2 : validS c d = true := hob _ (by simp)
    have h3 : validS e f = true := hob _ (by simp)
    refine ⟨by kernel_rfl, fnVC_go (rs := [.tmp 6]) rfl rfl ?_⟩
    simp only [go_sem, c306, c307]
    intro z k z1 k1 z2 k2 z3 k3 z4 k4
    subst k k1 k2 k3
    rw [k4, turn_wrap h1 h2 h3]
  · cases hc
def sideS (a b c d e f : Int) : Int := if validS a b = true ∧ validS c d = true ∧ validS e f = true then (if 0 < turnS a b c d e f then 1 else if turnS a b c d e f < 0 then -1 else 0) else 0
theorem fair3 {a b c d e f : Int} {g : Nat → List AV} (h0 : g 0 = [i64 a, i64 b]) (h1 : g 1 = [i64 c, i64 d]) (h2 : g 2 = [i64 e, i64 f]) : fairS 3 (gx g 0) (gx g 1) = true ↔ (validS a b = true ∧ validS c d = true ∧ validS e f = true) := by
  rw [fairS_iff]
  constructor
  · intro h
    have k0 := h 0 (by omega)
    have k1 := h 1 (by omega)
    have k2 := h 2 (by omega)
    simp only [gx, h0, h1, h2, gi_0, gi_1] at k0 k1 k2
    exact ⟨k0, k1, k2⟩
  · intro h i hi
    have : i = 0 ∨ i = 1 ∨ i = 2 := by omega
    rcases this with rfl | rfl | rfl
    · simp only [gx, h0, gi_0, gi_1]; exact h.1
    · simp only [gx, h1, gi_0, gi_1]; exact h.2.1
    · simp only [gx, h2, gi_0, gi_1]; exact h.2.2
theorem spots3 {a b c d e f : Int} {g : Nat → List AV} (h0 : g 0 = [i64 a, i64 b]) (h1 : g 1 = [i64 c, i64 d]) (h2 : g 2 = [i64 e, i64 f]) (ha : inR a) (hb : inR b) (hc : inR c) (hd : inR d) (he : inR e) (hf : inR f) : spots 3 g := by
  intro i hi
  have : i = 0 ∨ i = 1 ∨ i = 2 := by omega
  rcases this with rfl | rfl | rfl
  · simp only [gx, h0, gi_0, gi_1]; exact ⟨trivial, ha, hb⟩
  · simp only [gx, h1, gi_0, gi_1]; exact ⟨trivial, hc, hd⟩
  · simp only [gx, h2, gi_0, gi_1]; exact ⟨trivial, he, hf⟩
end Go.Ax
end

section
/-
  Vectors.
-/
set_option linter.unusedVariables false
set_option linter.unusedSimpArgs false
set_option maxHeartbeats 4000000
set_option maxRecDepth 100000
namespace Go.Ax
open Go.Proofs
/-! ### A type more -/
abbrev nb (a : Nb) : AV := .agg [i64 a.1, bo a.2]
abbrev ve (a b : Nb) : AV := .agg [i64 a.1, bo a.2, i64 b.1, bo b.2]
def nRat (a b : Int) : Nb := (raV a b, raF a b || false)
def nDot (a b c d : Nb) : Nb := (ftV ((whV a.1 * whV b.1 + whV c.1 * whV d.1).tdiv 4294967296), ftF ((whV a.1 * whV b.1 + whV c.1 * whV d.1).tdiv 4294967296) || (whF a.1 a.2 || whF b.1 b.2 || whF c.1 c.2 || whF d.1 d.2))
def nHyp (a b : Nb) : Nb := (ftV (isq (whV a.1 * whV a.1 + whV b.1 * whV b.1).toNat), ftF (isq (whV a.1 * whV a.1 + whV b.1 * whV b.1).toNat) || (whF a.1 a.2 || whF b.1 b.2))
def nSub (a b : Nb) : Nb := (ftV (whV a.1 - whV b.1), ftF (whV a.1 - whV b.1) || (whF a.1 a.2 || whF b.1 b.2))
def nPos (a : Nb) : Nb := (if 0 < whV a.1 then whV a.1 else 0, whF a.1 a.2)
theorem nRat_rg {a b : Int} : rg (nRat a b).1 := raV_rg
theorem nDot_rg {a b c d : Nb} : rg (nDot a b c d).1 := ftV_rg _
theorem nHyp_rg {a b : Nb} : rg (nHyp a b).1 := ftV_rg _
theorem nSub_rg {a b : Nb} : rg (nSub a b).1 := ftV_rg _

/-! ### The program's -/
def c208 : Con
  | [.agg [.v (.int .i64 x), .v (.int .i64 y)]] => some ([inR x, inR y], ve (nRat x 256) (nRat y 256))
  | _ => none
theorem con208 : ConOK Tryz.prog 208 c208 := ConOK.of (G := [(132, c132)]) (H := [(1, ⟨[(7, .slot 2)], []⟩)]) (.cons con132 .nil) Tryz.func208 fun l ob r hc hob => by
  unfold c208 at hc
  split at hc
  · rename_i x y
    cases hc
    have h_0 : inR x := hob _ (by simp)
    have h_1 : inR y := hob _ (by simp)
    refine ⟨by kernel_rfl, fnVC_go (rs := [.cell 2 26]) rfl rfl ?_⟩
    simp only [go_sem, c132]
    simp only [forall_eq]
    exact ⟨h_0, by unfold inR; omega, h_1, by unfold inR; omega, rfl⟩
  · cases hc
def c251 : Con
  | [.agg [.v (.int .i64 x), .v (.bool e), .v (.int .i64 y), .v (.bool f)]] => some ([inR x, inR y], nb (nHyp (x, e) (y, f)))
  | _ => none
theorem con251 : ConOK Tryz.prog 251 c251 := ConOK.of (G := [(242, c242)]) (H := []) (.cons con242 .nil) Tryz.func251 fun l ob r hc hob => by
  unfold c251 at hc
  split at hc
  · rename_i x e y f
    cases hc
    have h_0 : inR x := hob _ (by simp)
    have h_1 : inR y := hob _ (by simp)
    refine ⟨by kernel_rfl, fnVC_go (rs := [.cell 2 24]) rfl rfl ?_⟩
    simp only [go_sem, c242]
    simp only [forall_eq]
    exact ⟨h_0, h_1, rfl⟩
  · cases hc
def c122 : Con
  | [.agg [.v (.int .i64 x), .v (.bool e), .v (.int .i64 y), .v (.bool f)], .agg [.v (.int .i64 k), .v (.bool g)]] => some ([inR x, inR y, inR k], ve (nMul (x, e) (k, g)) (nMul (y, f) (k, g)))
  | _ => none
theorem con122 : ConOK Tryz.prog 122 c122 := ConOK.of (G := [(125, c125)]) (H := [(1, ⟨[(9, .slot 4)], []⟩)]) (.cons con125 .nil) Tryz.func122 fun l ob r hc hob => by
  unfold c122 at hc
  split at hc
  · rename_i x e y f k g
    cases hc
    have h_0 : inR x := hob _ (by simp)
    have h_1 : inR y := hob _ (by simp)
    have h_2 : inR k := hob _ (by simp)
    refine ⟨by kernel_rfl, fnVC_go (rs := [.cell 4 26]) rfl rfl ?_⟩
    simp only [go_sem, c125]
    simp only [forall_eq]
    exact ⟨h_0, h_2, h_1, h_2, rfl⟩
  · cases hc
def c219 : Con
  | [.agg [.v (.int .i64 x), .v (.bool e), .v (.int .i64 y), .v (.bool f)], .agg [.v (.int .i64 z), .v (.bool g), .v (.int .i64 t), .v (.bool h)]] => some ([inR x, inR y, inR z, inR t], nb (nDot (x, e) (z, g) (y, f) (t, h)))
  | _ => none
theorem con219 : ConOK Tryz.prog 219 c219 := ConOK.of (G := [(238, c238)]) (H := []) (.cons con238 .nil) Tryz.func219 fun l ob r hc hob => by
  unfold c219 at hc
  split at hc
  · rename_i x e y f z g t h
    cases hc
    have h_0 : inR x := hob _ (by simp)
    have h_1 : inR y := hob _ (by simp)
    have h_2 : inR z := hob _ (by simp)
    have h_3 : inR t := hob _ (by simp)
    refine ⟨by kernel_rfl, fnVC_go (rs := [.cell 4 24]) rfl rfl ?_⟩
    simp only [go_sem, c238]
    simp only [forall_eq]
    exact ⟨h_0, h_2, h_1, h_3, rfl⟩
  · cases hc
def c174 : Con
  | [.agg [.v (.int .i64 x), .v (.bool e), .v (.int .i64 y), .v (.bool f)], .agg [.v (.int .i64 z), .v (.bool g), .v (.int .i64 t), .v (.bool h)]] => some ([inR x, inR y, inR z, inR t], nb (nDot (x, e) (t, h) (nNeg (y, f)) (z, g)))
  | _ => none
theorem con174 : ConOK Tryz.prog 174 c174 := ConOK.of (G := [(238, c238), (164, c164)]) (H := [(1, ⟨[(10, .slot 4)], []⟩)]) (.cons con238 (.cons con164 .nil)) Tryz.func174 fun l ob r hc hob => by
  unfold c174 at hc
  split at hc
  · rename_i x e y f z g t h
    cases hc
    have h_0 : inR x := hob _ (by simp)
    have h_1 : inR y := hob _ (by simp)
    have h_2 : inR z := hob _ (by simp)
    have h_3 : inR t := hob _ (by simp)
    refine ⟨by kernel_rfl, fnVC_go (rs := [.cell 4 24]) rfl rfl ?_⟩
    simp only [go_sem, c238, c164]
    simp only [forall_eq]
    exact ⟨h_1, h_0, h_3, rg_inR (nNeg_rg (a := (y, f)) h_1), h_2, rfl⟩
  · cases hc
def c213 : Con
  | [.agg [.v (.int .i64 x), .v (.int .i64 y)]] => some ([inR x, inR y], ve (nRat x 256) (nRat y 256))
  | _ => none
theorem con213 : ConOK Tryz.prog 213 c213 := ConOK.of (G := [(28, c28)]) (H := [(1, ⟨[(7, .slot 2)], []⟩)]) (.cons con28 .nil) Tryz.func213 fun l ob r hc hob => by
  unfold c213 at hc
  split at hc
  · rename_i x y
    cases hc
    have h_0 : inR x := hob _ (by simp)
    have h_1 : inR y := hob _ (by simp)
    refine ⟨by kernel_rfl, fnVC_go (rs := [.cell 2 26]) rfl rfl ?_⟩
    simp only [go_sem, c28]
    simp only [forall_eq]
    exact ⟨h_0, by unfold inR; omega, h_1, by unfold inR; omega, rfl⟩
  · cases hc
def c169 : Con
  | [.agg [.v (.int .i64 v), .v (.bool f)]] => some ([inR v], ve (csV v f, csF v f) (snV v f, snF v f))
  | _ => none
theorem con169 : ConOK Tryz.prog 169 c169 := ConOK.of (G := [(226, c226), (227, c227)]) (H := [(1, ⟨[(5, .slot 2)], []⟩)]) (.cons con226 (.cons con227 .nil)) Tryz.func169 fun l ob r hc hob => by
  unfold c169 at hc
  split at hc
  · rename_i v f
    cases hc
    have h_0 : inR v := hob _ (by simp)
    refine ⟨by kernel_rfl, fnVC_go (rs := [.cell 2 51]) rfl rfl ?_⟩
    simp only [go_sem, c226, c227]
    simp only [forall_eq]
    exact ⟨h_0, h_0, trivial⟩
  · cases hc
def c198 : Con
  | [.agg [.v (.int .i64 x), .v (.bool e), .v (.int .i64 y), .v (.bool f)], .agg [.v (.int .i64 z), .v (.bool g), .v (.int .i64 t), .v (.bool h)]] => some ([inR x, inR y, inR z, inR t], ve (nDot (x, e) (z, g) (nNeg (y, f)) (t, h)) (nDot (y, f) (z, g) (x, e) (t, h)))
  | _ => none
theorem con198 : ConOK Tryz.prog 198 c198 := ConOK.of (G := [(92, c92), (111, c111)]) (H := [(1, ⟨[(20, .slot 4)], []⟩)]) (.cons con92 (.cons con111 .nil)) Tryz.func198 fun l ob r hc hob => by
  unfold c198 at hc
  split at hc
  · rename_i x e y f z g t h
    cases hc
    have h_0 : inR x := hob _ (by simp)
    have h_1 : inR y := hob _ (by simp)
    have h_2 : inR z := hob _ (by simp)
    have h_3 : inR t := hob _ (by simp)
    refine ⟨by kernel_rfl, fnVC_go (rs := [.cell 4 26]) rfl rfl ?_⟩
    simp only [go_sem, c92, c111]
    simp only [forall_eq]
    exact ⟨h_1, h_0, h_2, rg_inR (nNeg_rg (a := (y, f)) h_1), h_3, h_1, h_2, h_0, h_3, rfl⟩
  · cases hc
theorem nums1 {a : Int} {e : Bool} {g : Nat → List AV} (h0 : g 0 = [i64 a, bo e]) (ha : inR a) : nums 1 g := by
  intro i hi
  have : i = 0 := by omega
  subst this
  simp only [gx, gb, h0, gi_0, gib_1]; exact ⟨trivial, ha⟩
def c253 : Con
  | [.agg [.v (.int .i64 x), .v (.bool f)]] => some ([inR x], bo (whF x f))
  | _ => none
theorem con253 : ConOK Tryz.prog 253 c253 := ConOK.of (G := [(159, c159)]) (H := []) (.cons con159 .nil) Tryz.func253 fun l ob r hc hob => by
  unfold c253 at hc
  split at hc
  · rename_i x f
    cases hc
    have h_0 : inR x := hob _ (by simp)
    refine ⟨by kernel_rfl, fnVC_go (rs := [.tmp 2]) rfl rfl ?_⟩
    simp only [go_sem, c159]
    simp only [forall_eq]
    have e : suS (wvS (rowsOf 2 [i64 x, bo f])) 1 = whV x := by
      show 0 + whV (gx (rowsOf 2 [i64 x, bo f]) 0 0) = _
      rw [Int.zero_add]; rfl
    have e2 : wfS 1 (rowsOf 2 [i64 x, bo f]) = whF x f := by
      show (false || whF (gx (rowsOf 2 [i64 x, bo f]) 0 0) (gb (rowsOf 2 [i64 x, bo f]) 1 0)) = _
      rfl
    rw [e, e2, ftF_of (whV_rg h_0)]
    exact ⟨nums1 rfl h_0, rfl⟩
  · cases hc
def c209 : Con
  | [.agg [.v (.int .i64 x), .v (.bool e), .v (.int .i64 y), .v (.bool f)]] => some ([inR x, inR y], i64 (if (whF x e = true ∨ whF y f = true) ∨ (65536 < (nDot (x, e) (x, e) (y, f) (y, f)).1 - 4294967296 ∨ 65536 < 4294967296 - (nDot (x, e) (x, e) (y, f) (y, f)).1) then 3 else 0))
  | _ => none
theorem con209 : ConOK Tryz.prog 209 c209 := ConOK.of (G := [(111, c111), (253, c253)]) (H := []) (.cons con111 (.cons con253 .nil)) Tryz.func209 fun l ob r hc hob => by
  unfold c209 at hc
  split at hc
  · rename_i x e y f
    cases hc
    have h_0 : inR x := hob _ (by simp)
    have h_1 : inR y := hob _ (by simp)
    refine ⟨by kernel_rfl, fnVC_go (rs := [.tmp 2]) rfl rfl ?_⟩
    simp only [go_sem, c111, c253]
    simp only [forall_eq]
    have k0 : 0 ≤ (whV x * whV x + whV y * whV y).tdiv 4294967296 := Int.tdiv_nonneg (by have := sq_nonneg (a := whV x); have := sq_nonneg (a := whV y); omega) (by omega)
    have k1 : 0 ≤ ftV ((whV x * whV x + whV y * whV y).tdiv 4294967296) ∧ ftV ((whV x * whV x + whV y * whV y).tdiv 4294967296) ≤ 9223372036854775807 := by unfold ftV; (repeat' split) <;> omega
    have e : (nDot (x, e) (x, e) (y, f) (y, f)).1 = ftV ((whV x * whV x + whV y * whV y).tdiv 4294967296) := rfl
    rw [e]
    generalize ftV ((whV x * whV x + whV y * whV y).tdiv 4294967296) = n at *
    rw [wrap_in (x := n - 4294967296) (by unfold inR; omega), wrap_in (x := 4294967296 - n) (by unfold inR; omega)]
    refine ⟨h_0, h_0, h_1, h_1, h_0, fun _ => h_1, fun h => ?_, fun h => ?_⟩
    · rw [if_pos (by rcases h with (h | h) | h
                     · exact .inl h
                     · exact .inr (.inl h)
                     · exact .inr (.inr h))]
    · rw [if_neg (by
        rintro ((k | k) | (k | k))
        · rw [h.1.1.1] at k; cases k
        · rw [h.1.1.2] at k; cases k
        · exact h.1.2 k
        · exact h.2 k)]
  · cases hc
def c53 : Con
  | [.v (.int .i64 n), .v (.int .i64 s)] => some ([inR n, 1 ≤ s ∧ s ≤ 1000000], .agg [i64 (n.tmod (s * 4294967296)), bo false])
  | _ => none
theorem con53 : ConOK Tryz.prog 53 c53 := ConOK.of (G := []) (H := []) .nil Tryz.func53 fun l ob r hc hob => by
  unfold c53 at hc
  split at hc
  · rename_i n s
    cases hc
    have h_0 : inR n := hob _ (by simp)
    have h_1 : 1 ≤ s ∧ s ≤ 1000000 := hob _ (by simp)
    refine ⟨by kernel_rfl, fnVC_go (rs := [.cell 4 24]) rfl rfl ?_⟩
    simp only [go_sem]
    intro z hz
    rw [wrap_in (by unfold inR; omega)] at hz
    rw [hz]
    exact ⟨by omega, fun z1 hz1 => by rw [hz1]⟩
  · cases hc
def c221 : Con
  | [.v (.int .i64 n)] => some ([], bo (decide (16 ≤ n ∧ n ≤ 4096)))
  | _ => none
theorem con221 : ConOK Tryz.prog 221 c221 := ConOK.of (G := []) (H := []) .nil Tryz.func221 fun l ob r hc hob => by
  unfold c221 at hc
  split at hc
  · rename_i n
    cases hc
    refine ⟨by kernel_rfl, fnVC_go (rs := [.tmp 2]) rfl rfl ?_⟩
    simp only [go_sem]
    rw [Bool.eq_iff_iff]; simp
  · cases hc
def c222 : Con
  | [.v (.int .i64 n)] => some ([], bo (decide (-4096 ≤ n ∧ n ≤ 4096)))
  | _ => none
theorem con222 : ConOK Tryz.prog 222 c222 := ConOK.of (G := []) (H := []) .nil Tryz.func222 fun l ob r hc hob => by
  unfold c222 at hc
  split at hc
  · rename_i n
    cases hc
    refine ⟨by kernel_rfl, fnVC_go (rs := [.tmp 2]) rfl rfl ?_⟩
    simp only [go_sem]
    rw [Bool.eq_iff_iff]; simp
  · cases hc
def c224 : Con
  | [.agg [.v (.int .i64 a), .v (.int .i64 b)], .agg [.v (.int .i64 c), .v (.int .i64 d)]] => some ([], i64 (IntKind.i64.wrap (a * d - b * c)))
  | _ => none
theorem con224 : ConOK Tryz.prog 224 c224 := ConOK.of (G := []) (H := []) .nil Tryz.func224 fun l ob r hc hob => by
  unfold c224 at hc
  split at hc
  · rename_i a b c d
    cases hc
    refine ⟨by kernel_rfl, fnVC_go (rs := [.tmp 4]) rfl rfl ?_⟩
    simp only [go_sem]
    simp only [forall_eq]
    rw [wrap_i64, wrap_i64, wrap_i64, wrap_i64]
    generalize a * d = p
    generalize b * c = q
    omega
  · cases hc
def c265 : Con
  | [.agg [.v (.int .i64 a), .v (.int .i64 b)], .agg [.v (.int .i64 c), .v (.int .i64 d)]] => some ([], .agg [i64 (IntKind.i64.wrap (a - c)), i64 (IntKind.i64.wrap (b - d))])
  | _ => none
theorem con265 : ConOK Tryz.prog 265 c265 := ConOK.of (G := []) (H := []) .nil Tryz.func265 fun l ob r hc hob => by
  unfold c265 at hc
  split at hc
  · rename_i a b c d
    cases hc
    refine ⟨by kernel_rfl, fnVC_go (rs := [.cell 4 101]) rfl rfl ?_⟩
    simp only [go_sem]
    simp only [forall_eq]
  · cases hc
def c266 : Con
  | [.agg [.v (.int .i64 a), .v (.int .i64 b)]] => some ([-1000000 ≤ a ∧ a ≤ 1000000, -1000000 ≤ b ∧ b ≤ 1000000], i64 (ab a + ab b))
  | _ => none
theorem con266 : ConOK Tryz.prog 266 c266 := ConOK.of (G := []) (H := []) .nil Tryz.func266 fun l ob r hc hob => by
  unfold c266 at hc
  split at hc
  · rename_i a b
    cases hc
    have h_0 : -1000000 ≤ a ∧ a ≤ 1000000 := hob _ (by simp)
    have h_1 : -1000000 ≤ b ∧ b ≤ 1000000 := hob _ (by simp)
    refine ⟨by kernel_rfl, fnVC_go (rs := [.tmp 2]) rfl rfl ?_⟩
    simp only [go_sem]
    simp only [forall_eq]
    rw [wrap_in (x := 0 - a) (by unfold inR; omega), wrap_in (x := 0 - b) (by unfold inR; omega), wrap_in (by unfold inR; omega)]
    unfold ab
    split <;> split <;> omega
  · cases hc
def c210 : Con
  | [.agg [.v (.int .i64 a), .v (.bool e)]] => some ([inR a], bo (whF a e || decide (17592186044416 < ab (whV a))))
  | _ => none
theorem con210 : ConOK Tryz.prog 210 c210 := ConOK.of (G := [(30, c30)]) (H := []) (.cons con30 .nil) Tryz.func210 fun l ob r hc hob => by
  unfold c210 at hc
  split at hc
  · rename_i a e
    cases hc
    have h_0 : inR a := hob _ (by simp)
    refine ⟨by kernel_rfl, fnVC_go (rs := [.tmp 2]) rfl rfl ?_⟩
    simp only [go_sem, c30]
    simp only [forall_eq]
    exact ⟨h_0, trivial⟩
  · cases hc
def spV (a : Nb) : Int := (whV (nMul a (nInt 256)).1 + 2147483648) / 4294967296
def c211 : Con
  | [.agg [.v (.int .i64 a), .v (.bool e), .v (.int .i64 b), .v (.bool f)]] => some ([inR a, inR b], .agg [i64 (spV (a, e)), i64 (spV (b, f))])
  | _ => none
theorem con211 : ConOK Tryz.prog 211 c211 := ConOK.of (G := [(143, c143), (260, c260), (27, c27)]) (H := [(2, ⟨[(11, .slot 2)], []⟩)]) (.cons con143 (.cons con260 (.cons con27 .nil))) Tryz.func211 fun l ob r hc hob => by
  unfold c211 at hc
  split at hc
  · rename_i a e b f
    cases hc
    have h_0 : inR a := hob _ (by simp)
    have h_1 : inR b := hob _ (by simp)
    refine ⟨by kernel_rfl, fnVC_go (rs := [.cell 2 101]) rfl rfl ?_⟩
    simp only [go_sem, c143, c260, c27]
    simp only [forall_eq]
    exact ⟨by unfold inR; omega, h_0, rg_inR (ftV_rg _), rg_inR (ftV_rg _), h_1, rg_inR (ftV_rg _), rg_inR (ftV_rg _), rfl⟩
  · cases hc
/-! ### Directions -/
/-- Whether one of some vectors is flagged. -/
def vfS (n : Nat) (g : Nat → List AV) : Bool := anyB (fun i => whF (gx g 0 i) (gb g 1 i) || whF (gx g 2 i) (gb g 3 i)) n
theorem gib_3 {a b c : AV} {x : Bool} {l : List AV} : gib (a :: b :: c :: .v (.bool x) :: l) 3 = x := (rfl)
attribute [go_sem] gib_3
def vecs (n : Nat) (g : Nat → List AV) : Prop := ∀ i, i < n → g i = [i64 (gx g 0 i), bo (gb g 1 i), i64 (gx g 2 i), bo (gb g 3 i)] ∧ inR (gx g 0 i) ∧ inR (gx g 2 i)
def c289 : Con
  | [.agg [.v (.int .i64 x), .v (.bool e), .v (.int .i64 y), .v (.bool f)]] => some ([inR x, inR y], bo (whF x e || whF y f))
  | _ => none
theorem con289 : ConOK Tryz.prog 289 c289 := ConOK.of (G := [(164, c164)]) (H := []) (.cons con164 .nil) Tryz.func289 fun l ob r hc hob => by
  unfold c289 at hc
  split at hc
  · rename_i x e y f
    cases hc
    have h_0 : inR x := hob _ (by simp)
    have h_1 : inR y := hob _ (by simp)
    refine ⟨by kernel_rfl, fnVC_go (rs := [.tmp 2]) rfl rfl ?_⟩
    simp only [go_sem, c164]
    simp only [forall_eq]
    exact ⟨h_0, fun _ => h_1, trivial⟩
  · cases hc
/-- The first one of some, or -1. -/
def ixS (G : Nat → Bool) : Nat → Nat → Int
  | _, 0 => -1
  | i, k + 1 => if G i = true then i else ixS G (i + 1) k
theorem ixS_any {G : Nat → Bool} {n : Nat} : ∀ (k i : Nat), i + k = n → (∀ j, j < i → G j = false) → decide (0 ≤ ixS G i k) = anyB G n
  | 0, i, h, hj => by
    have : anyB G n = false := by
      rw [Bool.eq_false_iff]
      intro hc
      obtain ⟨j, h1, h2⟩ := anyB_iff.1 hc
      rw [hj j (by omega)] at h2; cases h2
    rw [this]; rfl
  | k + 1, i, h, hj => by
    unfold ixS
    by_cases hg : G i = true
    · rw [if_pos hg, decide_eq_true (by omega)]
      exact (anyB_iff.2 ⟨i, by omega, hg⟩).symm
    · rw [if_neg hg]
      exact ixS_any k (i + 1) (by omega) fun j hj2 => by
        by_cases e : j = i
        · subst e; exact Bool.eq_false_iff.2 hg
        · exact hj j (by omega)
def vflS (g : Nat → List AV) (i : Nat) : Bool := whF (gx g 0 i) (gb g 1 i) || whF (gx g 2 i) (gb g 3 i)
def c301 : Con
  | [.ro n 4 g, .fn 289 []] => some ([vecs n g, n ≤ 1000], i64 (ixS (vflS g) 0 n))
  | _ => none
theorem vc301 (n : Nat) (X Y : Nat → Int) (E F : Nat → Bool) (hX : ∀ i, i < n → inR (X i) ∧ inR (Y i)) (hn : n ≤ 1000) : fnVC Tryz.prog [(289, c289)] [] Tryz.f301 [.ro n 4 fun i => [i64 (X i), bo (E i), i64 (Y i), bo (F i)], .fn 289 []] (· = i64 (ixS (fun i => whF (X i) (E i) || whF (Y i) (F i)) 0 n)) := by
  refine fnVC_go (rs := [.tmp 4]) rfl rfl ?_
  simp only [go_sem]
  refine loopC_go (fun (i : Nat) => i ≤ n ∧ ixS (fun i => whF (X i) (E i) || whF (Y i) (F i)) 0 n = ixS (fun i => whF (X i) (E i) || whF (Y i) (F i)) i (n - i)) (fun i => n - i) (fun i => [(8, i64 i)]) (fun _ => []) [] [9, 10, 5, 11, 12, 13, 14, 15, 16, 17, 4, 18, 8] 0 (by kernel_rfl) ?_ ⟨Nat.zero_le _, rfl⟩ ?_ ?_
  · intro x _; simp [goodNames]
  · simp only [go_sem]
  · intro i hi
    simp only [go_sem, c289]
    generalize hG : (fun i => whF (X i) (E i) || whF (Y i) (F i)) = G at *
    have hGi : G i = (whF (X i) (E i) || whF (Y i) (F i)) := by rw [← hG]
    rw [← hGi]
    refine ⟨fun h => ⟨by omega, h, fun z hz => ⟨(hX i (by omega)).1, (hX i (by omega)).2, fun hz1 => ?_, fun hz1 z2 hz2 => ⟨i + 1, ⟨by omega, ?_⟩, by omega, ?_⟩⟩⟩, fun h => ?_⟩
    · rw [hi.2, show n - i = (n - i - 1) + 1 by omega]
      unfold ixS
      rw [if_pos (by rw [← hz]; exact hz1)]
    · rw [hi.2, show n - i = (n - i - 1) + 1 by omega]
      conv => lhs; unfold ixS
      rw [if_neg (by rw [← hz, hz1]; decide), show n - (i + 1) = n - i - 1 by omega]
    · rw [hz2, wrap_in (by unfold inR; omega)]; rfl
    · rw [hi.2, show n - i = 0 by omega]; rfl
theorem con301 : ConOK Tryz.prog 301 c301 := ConOK.go (G := [(289, c289)]) (H := []) (.cons con289 .nil) Tryz.func301 fun l ob r hc hob => by
  unfold c301 at hc
  split at hc
  · rename_i n g
    cases hc
    have hs : vecs n g := hob _ (by simp)
    refine ⟨[.ro n 4 fun i => [i64 (gx g 0 i), bo (gb g 1 i), i64 (gx g 2 i), bo (gb g 3 i)], .fn 289 []], fun w I vs h => ?_, by kernel_rfl, vc301 n _ _ _ _ (fun i hi => (hs i hi).2) (hob _ (by simp))⟩
    obtain ⟨x, xs, rfl, h1, h2⟩ := h.inv
    exact .cons (ro_alike (fun i hi => (hs i hi).1) h1) h2
  · cases hc
def c288 : Con
  | [.ro n 4 g, .fn 289 []] => some ([vecs n g, n ≤ 1000], bo (vfS n g))
  | _ => none
theorem con288 : ConOK Tryz.prog 288 c288 := ConOK.of (G := [(301, c301)]) (H := []) (.cons con301 .nil) Tryz.func288 fun l ob r hc hob => by
  unfold c288 at hc
  split at hc
  · rename_i n g
    cases hc
    have h_0 : vecs n g := hob _ (by simp)
    have h_1 : n ≤ 1000 := hob _ (by simp)
    refine ⟨by kernel_rfl, fnVC_go (rs := [.tmp 4]) rfl rfl ?_⟩
    simp only [go_sem, c301]
    simp only [forall_eq]
    exact ⟨h_0, h_1, ixS_any n 0 (by omega) fun j hj => by omega⟩
  · cases hc
def c257 : Con
  | [.ro n 4 g] => some ([vecs n g, n ≤ 1000], bo (vfS n g))
  | _ => none
theorem con257 : ConOK Tryz.prog 257 c257 := ConOK.of (G := [(288, c288)]) (H := []) (.cons con288 .nil) Tryz.func257 fun l ob r hc hob => by
  unfold c257 at hc
  split at hc
  · rename_i n g
    cases hc
    have h_0 : vecs n g := hob _ (by simp)
    have h_1 : n ≤ 1000 := hob _ (by simp)
    refine ⟨by kernel_rfl, fnVC_go (rs := [.tmp 2]) rfl rfl ?_⟩
    simp only [go_sem, c288]
    simp only [forall_eq]
    exact ⟨h_0, h_1, trivial⟩
  · cases hc
theorem vecs1 {a b : Int} {e f : Bool} {g : Nat → List AV} (h0 : g 0 = [i64 a, bo e, i64 b, bo f]) (ha : inR a) (hb : inR b) : vecs 1 g := by
  intro i hi
  have : i = 0 := by omega
  subst this
  simp only [gx, gb, h0, gi_0, gib_1, gi_2, gib_3]; exact ⟨trivial, ha, hb⟩
theorem vf1 {a b : Int} {e f : Bool} {g : Nat → List AV} (h0 : g 0 = [i64 a, bo e, i64 b, bo f]) : vfS 1 g = (whF a e || whF b f) := by
  simp only [vfS, anyB, gx, gb, h0, gi_0, gib_1, gi_2, gib_3, Bool.false_or]
/-- A direction, if there is one. -/
def unB (x y : Int) : Nb × Nb := if ab x < 16777216 ∧ ab y < 16777216 then ((x * 16777216, false), (y * 16777216, false)) else ((x, false), (y, false))
def unS (x : Int) (e : Bool) (y : Int) (f : Bool) : Bool × Nb × Nb :=
  if whF x e = true ∨ whF y f = true then (false, (0, false), (0, false))
  else if (nHyp (unB x y).1 (unB x y).2).2 = true ∨ (nHyp (unB x y).1 (unB x y).2).1 = 0 then (false, (0, false), (0, false))
  else (true, nDiv (unB x y).1 (nHyp (unB x y).1 (unB x y).2), nDiv (unB x y).2 (nHyp (unB x y).1 (unB x y).2))
theorem wh_split {v : Int} {f : Bool} (h : whF v f = false) : v ≠ -9223372036854775808 ∧ f = false := by
  unfold whF at h
  rw [Bool.or_eq_false_iff] at h
  exact ⟨of_decide_eq_false h.1, h.2⟩
theorem tupv {a b c d a' b' c' d' : AV} {p p' : Bool} (h1 : a = a') (h2 : b = b') (h3 : c = c') (h4 : d = d') (h5 : p = p') : AV.tup [.agg [a, b, c, d], bo p] = .tup [.agg [a', b', c', d'], bo p'] := by rw [h1, h2, h3, h4, h5]
theorem unS_none {x y : Int} {e f : Bool} (h : whF x e = true ∨ whF y f = true) : unS x e y f = (false, (0, false), (0, false)) := by unfold unS; rw [if_pos h]
theorem unS_nul {x y : Int} {e f : Bool} {a b : Nb} (h : ¬ (whF x e = true ∨ whF y f = true)) (hb : unB x y = (a, b)) (h2 : (nHyp a b).2 = true ∨ (nHyp a b).1 = 0) : unS x e y f = (false, (0, false), (0, false)) := by unfold unS; rw [if_neg h, hb, if_pos h2]
theorem unS_some {x y : Int} {e f : Bool} {a b : Nb} (h : ¬ (whF x e = true ∨ whF y f = true)) (hb : unB x y = (a, b)) (h2 : ¬ ((nHyp a b).2 = true ∨ (nHyp a b).1 = 0)) : unS x e y f = (true, nDiv a (nHyp a b), nDiv b (nHyp a b)) := by unfold unS; rw [if_neg h, hb, if_neg h2]
def c250 : Con
  | [.agg [.v (.int .i64 x), .v (.bool e), .v (.int .i64 y), .v (.bool f)]] => some ([inR x, inR y], .tup [ve (unS x e y f).2.1 (unS x e y f).2.2, bo (unS x e y f).1])
  | _ => none
theorem con250 : ConOK Tryz.prog 250 c250 := ConOK.of (G := [(257, c257), (251, c251), (155, c155)]) (H := [(8, ⟨[(9, .slot 2)], []⟩)]) (.cons con257 (.cons con251 (.cons con155 .nil))) Tryz.func250 fun l ob r hc hob => by
  unfold c250 at hc
  split at hc
  · rename_i x e y f
    cases hc
    have h_0 : inR x := hob _ (by simp)
    have h_1 : inR y := hob _ (by simp)
    refine ⟨by kernel_rfl, fnVC_go (rs := [.cell 2 26, .tmp 3]) rfl rfl ?_⟩
    simp only [go_sem, c257, c251, c155]
    intro z hz
    refine ⟨vecs1 rfl h_0 h_1, fun ht => ?_, fun ht z1 hz1 z2 hz2 z3 hz3 => ?_⟩
    · rw [hz, vf1 rfl] at ht
      have ht : whF x e = true ∨ whF y f = true := by simpa using ht
      rw [unS_none ht]
    · rw [hz, vf1 rfl] at ht
      have ht2 : whF x e = false ∧ whF y f = false := by simpa using ht
      have ht : ¬ (whF x e = true ∨ whF y f = true) := by rw [ht2.1, ht2.2]; simp
      obtain ⟨hx, rfl⟩ := wh_split ht2.1
      obtain ⟨hy, rfl⟩ := wh_split ht2.2
      have hm : z3 < 16777216 ↔ ab x < 16777216 ∧ ab y < 16777216 := by
        rw [hz3, hz1, hz2, wrap_in (by unfold inR at *; omega), wrap_in (by unfold inR at *; omega)]
        unfold ab
        split <;> split <;> omega
      refine ⟨fun hs => ?_, fun hs => ?_⟩
      · have hs := hm.1 hs
        have hxb : -16777216 < x ∧ x < 16777216 := by unfold ab at hs; have := hs.1; split at this <;> omega
        have hyb : -16777216 < y ∧ y < 16777216 := by unfold ab at hs; have := hs.2; split at this <;> omega
        have hb : unB x y = ((x * 16777216, false), (y * 16777216, false)) := by unfold unB; rw [if_pos hs]
        rw [wrap_in (x := x * 16777216) (by unfold inR; omega), wrap_in (x := y * 16777216) (by unfold inR; omega)]
        simp only [forall_eq]
        refine ⟨by unfold inR; omega, by unfold inR; omega, fun h => ?_, fun h => ⟨by unfold inR; omega, rg_inR nHyp_rg, by unfold inR; omega, rg_inR nHyp_rg, ?_⟩⟩
        · rw [unS_nul ht hb (by simpa using h)]
        · rw [unS_some ht hb (by simpa using h)]
          rfl
      · have hs : ¬ (ab x < 16777216 ∧ ab y < 16777216) := fun h => hs (hm.2 h)
        have hb : unB x y = ((x, false), (y, false)) := by unfold unB; rw [if_neg hs]
        simp only [forall_eq]
        refine ⟨h_0, h_1, fun h => ?_, fun h => ⟨h_0, rg_inR nHyp_rg, h_1, rg_inR nHyp_rg, ?_⟩⟩
        · rw [unS_nul ht hb (by simpa using h)]
        · rw [unS_some ht hb (by simpa using h)]
          rfl
  · cases hc
theorem unS_rg {x y : Int} {e f : Bool} : rg (unS x e y f).2.1.1 ∧ rg (unS x e y f).2.2.1 := by
  have z : rg 0 := by unfold rg; omega
  unfold unS
  split
  · exact ⟨z, z⟩
  · split
    · exact ⟨z, z⟩
    · exact ⟨nDiv_rg, nDiv_rg⟩
/-- The normal of an edge. -/
def noS (a b c d : Int) : Bool × Nb × Nb := unS (nInt (d - b)).1 (nInt (d - b)).2 (nInt (-(c - a))).1 (nInt (-(c - a))).2
/-- The sum of one component. -/
def suV (n : Nat) (g : Nat → List AV) (k : Nat) : Nb := (ftV (suS (fun i => whV (gx g k i)) n), ftF (suS (fun i => whV (gx g k i)) n) || anyB (fun i => whF (gx g k i) (gb g (k + 1) i)) n)
theorem suS_congr {X Y : Nat → Int} : ∀ {n : Nat}, (∀ i, i < n → X i = Y i) → suS X n = suS Y n
  | 0, _ => rfl
  | n + 1, h => by unfold suS; rw [suS_congr (n := n) fun i hi => h i (by omega), h n (by omega)]
theorem anyB_congr {X Y : Nat → Bool} : ∀ {n : Nat}, (∀ i, i < n → X i = Y i) → anyB X n = anyB Y n
  | 0, _ => rfl
  | n + 1, h => by unfold anyB; rw [anyB_congr (n := n) fun i hi => h i (by omega), h n (by omega)]
def upB (i : Nat) (Z : Nat → Bool) (j : Nat) : Bool := if j < i then Z j else false
theorem upB_zero {Z : Nat → Bool} {j : Nat} : upB 0 Z j = false := by unfold upB; rw [if_neg (by omega)]
theorem upB_self {i : Nat} {Z : Nat → Bool} : upB (i + 1) Z i = Z i := by unfold upB; rw [if_pos (by omega)]
theorem upB_lt {i j : Nat} {Z : Nat → Bool} (h : j < i) : upB i Z j = Z j := by unfold upB; rw [if_pos h]
theorem upB_ne {i j : Nat} {Z : Nat → Bool} (h : j ≠ i) : upB (i + 1) Z j = upB i Z j := by
  unfold upB
  by_cases e : j < i
  · rw [if_pos e, if_pos (by omega)]
  · rw [if_neg e, if_neg (by omega)]
/-- The sum of one component. -/
def su1 (n : Nat) (X : Nat → Int) (E : Nat → Bool) : Nb := (ftV (suS (fun i => whV (X i)) n), ftF (suS (fun i => whV (X i)) n) || anyB (fun i => whF (X i) (E i)) n)
theorem su1_rg {n : Nat} {X : Nat → Int} {E : Nat → Bool} : rg (su1 n X E).1 := ftV_rg _
theorem wvS_up {n : Nat} {X : Nat → Int} {E : Nat → Bool} {g : Nat → List AV} (h : ∀ j, j < n → g j = [i64 (X j), bo (E j)]) : suS (wvS g) n = suS (fun i => whV (X i)) n ∧ wfS n g = anyB (fun i => whF (X i) (E i)) n :=
  ⟨suS_congr fun i hi => by simp only [wvS, gx, h i hi, gi_0], anyB_congr fun i hi => by simp only [gx, gb, h i hi, gi_0, gib_1]⟩
theorem nums_up {n : Nat} {X : Nat → Int} {E : Nat → Bool} {g : Nat → List AV} (h : ∀ j, j < n → g j = [i64 (X j), bo (E j)]) (hX : ∀ j, j < n → inR (X j)) : nums n g := fun i hi => by
  simp only [gx, gb, h i hi, gi_0, gib_1]; exact ⟨trivial, hX i hi⟩
def c121 : Con
  | [.ro n 4 g] => some ([vecs n g, n ≤ 1000], ve (su1 n (gx g 0) (gb g 1)) (su1 n (gx g 2) (gb g 3)))
  | _ => none
theorem vc121 (n : Nat) (X Y : Nat → Int) (E F : Nat → Bool) (hX : ∀ i, i < n → inR (X i) ∧ inR (Y i)) (hn : n ≤ 1000) : fnVC Tryz.prog [(179, c179)] [(5, ⟨[(9, .slot 3), (11, .slot 4)], [(7, [.slot 3])]⟩)] Tryz.f121 [.ro n 4 fun i => [i64 (X i), bo (E i), i64 (Y i), bo (F i)]] (· = ve (su1 n X E) (su1 n Y F)) := by
  refine fnVC_go (rs := [.cell 2 26]) rfl rfl ?_
  simp only [go_sem]
  have hb : ((bytesT Tryz.prog 24 : Nat) : Int) * (n : Int) ≤ 281474976710656 := by rw [show bytesT Tryz.prog 24 = 16 by kernel_rfl]; omega
  refine ⟨by omega, by omega, hb, by omega, by omega, hb, ?_⟩
  refine loopC_go (fun (i : Nat) => i ≤ n) (fun i => n - i) (fun i => [(15, i64 i)]) (fun i => [(6, famN n 2 24 (fun j => [i64 (uptN i Y j), bo (upB i F j)]) none), (3, famN n 2 24 (fun j => [i64 (uptN i X j), bo (upB i E j)]) none)]) [0] [16, 17, 18, 19, 6, 5, 20, 21, 22, 23, 24, 25, 26, 27, 28, 29, 30, 15] 0 (by kernel_rfl) ?_ (Nat.zero_le _) ?_ ?_
  · intro x _; simp [goodNames, asg]
  · simp only [go_sem, uptN_zero, upB_zero, implies_true]
  · intro i hi
    simp only [go_sem, c179]
    have hw : IntKind.i64.wrap ((i : Int) + 1) = ((i + 1 : Nat) : Int) := by rw [wrap_in (by unfold inR; omega)]; rfl
    refine ⟨fun hin => ⟨by omega, hin, by omega, hin, by omega, by omega, hin, by omega, fun z hz => ⟨i + 1, by omega, by omega, by rw [hz, hw], fun j hj => ?_, fun j hj => ?_⟩⟩, fun hin => ?_⟩
    · by_cases e : j = i
      · subst e
        rw [if_pos rfl]
        simp only [go_sem, uptN_self, upB_self]
      · rw [if_neg e]
        have h1 : ∀ Z, uptN (i + 1) Z j = uptN i Z j := fun Z => uptN_ne e
        have h2 : ∀ Z, upB (i + 1) Z j = upB i Z j := fun Z => upB_ne e
        simp only [go_sem, h1, h2]
    · by_cases e : j = i
      · subst e
        rw [if_pos rfl]
        simp only [go_sem, uptN_self, upB_self]
      · rw [if_neg e]
        have h1 : ∀ Z, uptN (i + 1) Z j = uptN i Z j := fun Z => uptN_ne e
        have h2 : ∀ Z, upB (i + 1) Z j = upB i Z j := fun Z => upB_ne e
        simp only [go_sem, h1, h2]
    · have e : i = n := by omega
      subst e
      have hx : ∀ j, j < i → (fun j => [i64 (uptN i X j), bo (upB i E j)]) j = [i64 (X j), bo (E j)] := fun j hj => by dsimp only; rw [uptN_lt hj, upB_lt hj]
      have hy : ∀ j, j < i → (fun j => [i64 (uptN i Y j), bo (upB i F j)]) j = [i64 (Y j), bo (F j)] := fun j hj => by dsimp only; rw [uptN_lt hj, upB_lt hj]
      obtain ⟨e1, e2⟩ := wvS_up hx
      obtain ⟨e3, e4⟩ := wvS_up hy
      simp only [forall_eq, e1, e2, e3, e4]
      exact ⟨nums_up hx fun j hj => (hX j hj).1, hn, nums_up hy fun j hj => (hX j hj).2, hn, rfl⟩
theorem con121 : ConOK Tryz.prog 121 c121 := ConOK.go (G := [(179, c179)]) (H := [(5, ⟨[(9, .slot 3), (11, .slot 4)], [(7, [.slot 3])]⟩)]) (.cons con179 .nil) Tryz.func121 fun l ob r hc hob => by
  unfold c121 at hc
  split at hc
  · rename_i n g
    cases hc
    have hs : vecs n g := hob _ (by simp)
    exact ⟨[.ro n 4 fun i => [i64 (gx g 0 i), bo (gb g 1 i), i64 (gx g 2 i), bo (gb g 3 i)]], fun w I vs h => Rs_one (fun v => ro_alike fun i hi => (hs i hi).1) h, by kernel_rfl, vc121 n _ _ _ _ (fun i hi => (hs i hi).2) (hob _ (by simp))⟩
  · cases hc
theorem vecs2 {a b c d : Int} {e f p q : Bool} {g : Nat → List AV} (h0 : g 0 = [i64 a, bo e, i64 b, bo f]) (h1 : g 1 = [i64 c, bo p, i64 d, bo q]) (ha : inR a) (hb : inR b) (hc : inR c) (hd : inR d) : vecs 2 g := by
  intro i hi
  have : i = 0 ∨ i = 1 := by omega
  rcases this with rfl | rfl
  · simp only [gx, gb, h0, gi_0, gib_1, gi_2, gib_3]; exact ⟨trivial, ha, hb⟩
  · simp only [gx, gb, h1, gi_0, gib_1, gi_2, gib_3]; exact ⟨trivial, hc, hd⟩
theorem nb_eq {a b : Nb} (h1 : a.1 = b.1) (h2 : a.2 = b.2) : a = b := Prod.ext h1 h2
theorem su2x {a b c d : Int} {e f p q : Bool} {g : Nat → List AV} (h0 : g 0 = [i64 a, bo e, i64 b, bo f]) (h1 : g 1 = [i64 c, bo p, i64 d, bo q]) : su1 2 (gx g 0) (gb g 1) = nAdd (a, e) (c, p) := by
  unfold su1 nAdd
  simp only [suS, anyB, gx, gb, h0, h1, gi_0, gib_1, Bool.false_or, Int.zero_add]
theorem su2y {a b c d : Int} {e f p q : Bool} {g : Nat → List AV} (h0 : g 0 = [i64 a, bo e, i64 b, bo f]) (h1 : g 1 = [i64 c, bo p, i64 d, bo q]) : su1 2 (gx g 2) (gb g 3) = nAdd (b, f) (d, q) := by
  unfold su1 nAdd
  simp only [suS, anyB, gx, gb, h0, h1, gi_2, gib_3, Bool.false_or, Int.zero_add]
end Go.Ax
end

section
/-
  The laws of boxes: what the functions hand back.
-/
set_option linter.unusedVariables false
set_option linter.unusedSimpArgs false
set_option maxHeartbeats 2000000
set_option maxRecDepth 100000
namespace Go.Ax
open Go.Proofs
def joinT (a b c d e f g h : Int) (k : Nat) : Int := if checkBoxS a b c d = 0 ∧ checkBoxS e f g h = 0 then (match k with
  | 0 => min a e
  | 1 => min b f
  | 2 => max c g
  | _ => max d h) else 0
theorem rows_0 {a b c d : AV} {l : List AV} : rowsOf 4 (a :: b :: c :: d :: l) 0 = [a, b, c, d] := (rfl)
theorem rows_1 {a b c d e f g h : AV} {l : List AV} : rowsOf 4 (a :: b :: c :: d :: e :: f :: g :: h :: l) 1 = [e, f, g, h] := (rfl)
theorem boxes_2 {a b c d e f g h : Int} : boxes 2 (rowsOf 4 [i64 a, i64 b, i64 c, i64 d, i64 e, i64 f, i64 g, i64 h]) = ((inR a ∧ inR b ∧ inR c ∧ inR d) ∧ inR e ∧ inR f ∧ inR g ∧ inR h) := propext ⟨fun H => by
    have h0 := (H 0 (by omega)).2
    have h1 := (H 1 (by omega)).2
    simp only [gx, rows_0, rows_1, gi_0, gi_1, gi_2, gi_3] at h0 h1
    exact ⟨h0, h1⟩, fun ⟨h0, h1⟩ i hi => by
    have : i = 0 ∨ i = 1 := by omega
    rcases this with rfl | rfl
    · simp only [gx, rows_0, gi_0, gi_1, gi_2, gi_3]; exact ⟨trivial, h0⟩
    · simp only [gx, rows_1, gi_0, gi_1, gi_2, gi_3]; exact ⟨trivial, h1⟩⟩
theorem okB_2 {A B C D : Nat → Int} : okB 2 A B C D ↔ checkBoxS (A 0) (B 0) (C 0) (D 0) = 0 ∧ checkBoxS (A 1) (B 1) (C 1) (D 1) = 0 :=
  ⟨fun h => ⟨h 0 (by omega), h 1 (by omega)⟩, fun ⟨h0, h1⟩ i hi => by
    have : i = 0 ∨ i = 1 := by omega
    rcases this with rfl | rfl <;> assumption⟩
theorem join_2 {a b c d e f g h : Int} {k : Nat} (hk : k < 4) : joinS 2 (gx (rowsOf 4 [i64 a, i64 b, i64 c, i64 d, i64 e, i64 f, i64 g, i64 h]) 0) (gx (rowsOf 4 [i64 a, i64 b, i64 c, i64 d, i64 e, i64 f, i64 g, i64 h]) 1) (gx (rowsOf 4 [i64 a, i64 b, i64 c, i64 d, i64 e, i64 f, i64 g, i64 h]) 2) (gx (rowsOf 4 [i64 a, i64 b, i64 c, i64 d, i64 e, i64 f, i64 g, i64 h]) 3) k = joinT a b c d e f g h k := by
  unfold joinS joinT
  simp only [okB_2, mnS, mxS, gx, rows_0, rows_1, gi_0, gi_1, gi_2, gi_3]
  have : k = 0 ∨ k = 1 ∨ k = 2 ∨ k = 3 := by omega
  rcases this with rfl | rfl | rfl | rfl <;> simp
attribute [go_sem] boxes_2 join_2 Nat.lt_irrefl
theorem tmod_5001 (x : Int) : -5000 ≤ x.tmod 5001 ∧ x.tmod 5001 ≤ 5000 := by
  have h1 := Int.tmod_lt_of_pos x (b := 5001) (by omega)
  have h2 := Int.tmod_lt_of_pos (-x) (b := 5001) (by omega)
  rw [Int.neg_tmod] at h2
  omega
/-- A box of numbers near zero. -/
def near (a b c d : Int) : Prop := -5000 ≤ a ∧ a ≤ c ∧ c ≤ 5000 ∧ -5000 ≤ b ∧ b ≤ d ∧ d ≤ 5000
theorem near_box {x0 x1 x2 x3 a b c d : Int} (ha : a = min (x0.tmod 5001) (x2.tmod 5001)) (hb : b = min (x1.tmod 5001) (x3.tmod 5001)) (hc : c = max (x0.tmod 5001) (x2.tmod 5001)) (hd : d = max (x1.tmod 5001) (x3.tmod 5001)) : near a b c d := by
  have h0 := tmod_5001 x0
  have h1 := tmod_5001 x1
  have h2 := tmod_5001 x2
  have h3 := tmod_5001 x3
  unfold near
  omega
theorem near_check {a b c d : Int} (h : near a b c d) : checkBoxS a b c d = 0 := checkBoxS_iff.2 (by unfold near at h; omega)
theorem near_inR {a b c d : Int} (h : near a b c d) : inR a ∧ inR b ∧ inR c ∧ inR d := by unfold near at h; unfold inR; omega
theorem joinT_0 {a b c d e f g h : Int} (h1 : checkBoxS a b c d = 0) (h2 : checkBoxS e f g h = 0) : joinT a b c d e f g h 0 = min a e := by
  simp only [joinT, h1, h2, and_self, if_true]
theorem joinT_1 {a b c d e f g h : Int} (h1 : checkBoxS a b c d = 0) (h2 : checkBoxS e f g h = 0) : joinT a b c d e f g h 1 = min b f := by
  simp only [joinT, h1, h2, and_self, if_true]
theorem joinT_2 {a b c d e f g h : Int} (h1 : checkBoxS a b c d = 0) (h2 : checkBoxS e f g h = 0) : joinT a b c d e f g h 2 = max c g := by
  simp only [joinT, h1, h2, and_self, if_true]
theorem joinT_3 {a b c d e f g h : Int} (h1 : checkBoxS a b c d = 0) (h2 : checkBoxS e f g h = 0) : joinT a b c d e f g h 3 = max d h := by
  simp only [joinT, h1, h2, and_self, if_true]
theorem modS_in {x : Int} : 0 ≤ modS x 100001 ∧ modS x 100001 ≤ 100000 := by
  have h1 := Int.tmod_lt_of_pos x (b := 100001) (by omega)
  have h2 := Int.tmod_lt_of_pos (-x) (b := 100001) (by omega)
  rw [Int.neg_tmod] at h2
  unfold modS
  split <;> omega
theorem grow_in {a b c d n : Int} (h : checkBoxS a b c d = 0) (hn : 0 ≤ n) (ha : -2097152 ≤ a - n) (hb : -2097152 ≤ b - n) (hc : c + n ≤ 2097152) (hd : d + n ≤ 2097152) : growS a b c d n 0 = a - n ∧ growS a b c d n 1 = b - n ∧ growS a b c d n 2 = c + n ∧ growS a b c d n 3 = d + n := by
  have h' := checkBoxS_iff.1 h
  have hg : growN n = n := by unfold growN; omega
  simp only [growS, h, if_true, hg]
  omega
end Go.Ax
end

section
/-
  The iterator over a polygon's edges.
-/
set_option linter.unusedVariables false
set_option linter.unusedSimpArgs false
set_option maxHeartbeats 1000000
set_option maxRecDepth 100000
namespace Go.Ax
open Go.Proofs

/-- The number of the next corner. -/
def nxt (n i : Nat) : Nat := if i + 1 < n then i + 1 else 0
theorem nxt_lt {n i : Nat} (h : i < n) : nxt n i < n := by unfold nxt; split <;> omega
/-- An edge. -/
def edgeE (n : Nat) (g : Nat → List AV) (i : Nat) : List AV := [.agg [i64 (gx g 0 i), i64 (gx g 1 i)], .agg [i64 (gx g 0 (nxt n i)), i64 (gx g 1 (nxt n i))]]
def c305 : Con
  | [.rop [.ro n 2 g]] => some ([spots n g, n ≤ 9223372036854775806], .ro n 2 (edgeE n g))
  | _ => none

/-- At the head of the loop. -/
structure At305 (I : Nat → Prop) (w : World) (J : Nat → World → Prop) (l n : Nat) (v1 x : Value) (i : Nat) (a : Act) (W : World) : Prop where
  sz : a.tmps.size = 38
  de : a.defers = []
  t0 : a.tmps.getD 0 undef = .func (.yield l) #[] #[]
  t1 : a.tmps.getD 1 undef = v1
  t3 : a.tmps.getD 3 undef = .int .i64 (IntKind.i64.wrap (n - 1))
  t12 : a.tmps.getD 12 undef = x
  t13 : a.tmps.getD 13 undef = .int .i64 n
  t14 : a.tmps.getD 14 undef = .int .i64 i
  le : i ≤ n
  j : J i W
  same : Same I w W

/-- The corners ars plain pairs. -/
def sg (g : Nat → List AV) : Nat → List AV := fun i => [i64 (gx g 0 i), i64 (gx g 1 i)]
theorem sg_eq {g : Nat → List AV} : sg g = fun i => [i64 (gx g 0 i), i64 (gx g 1 i)] := (rfl)

theorem seq305 : SeqOK Tryz.prog 305 c305 := by
  intro es ob N k sq hc hob
  unfold c305 at hc
  split at hc
  case h_2 => cases hc
  rename_i n g
  simp only [Option.some.injEq, Prod.mk.injEq, AV.ro.injEq] at hc
  obtain ⟨rfl, rfl, rfl, rfl⟩ := hc
  have hsp : spots n g := hob _ (by simp)
  have hn : n ≤ 9223372036854775806 := hob _ (by simp)
  intro I w vs nn l J Jx hI hRs hJ hJx h0 hy
  obtain ⟨v1, rest, rfl, hv1, hrest⟩ := hRs.inv
  have : rest = [] := by have := hrest.1; simpa using this
  subst this
  cases hv1 with
  | rop b o hib hex hr =>
  obtain ⟨x, hx⟩ := hex 0 (by simp)
  have hx : Has w b o x := hx
  have hib : I b := hib
  have hxr : R w (.ext I) (.ro n 2 (sg g)) x := ro_alike (fun i hi => (hsp i hi).1) (hr 0 _ x rfl hx)
  have hvx : R w (.ext I) (.rop [.v x]) (.pointer (some ⟨b, o, none⟩)) := rop1 hib hx .v
  have hvr : R w (.ext I) (.rop [.ro n 2 (sg g)]) (.pointer (some ⟨b, o, none⟩)) := rop1 hib hx hxr
  refine ⟨callFunc_enter Tryz.func305 (by kernel_rfl) rfl, ?_⟩
  refine callsIn_of_wp_marks (F := Fence.wide) Tryz.func305 rfl trivial ?_
  have hm : Tryz.prog.follows .mixedOrders = true := by kernel_rfl
  rw [show Tryz.f305.ntmps = 38 from by kernel_rfl]
  generalize hes : (#[Value.func (.yield l) #[] #[]] ++ [Value.pointer (some ⟨b, o, none⟩)].toArray : Array Value) = es
  have hes2 : es.size = 2 := by rw [← hes]; rfl
  have hes0 : es[0]? = some (.func (.yield l) #[] #[]) := by rw [← hes]; rfl
  have hes1 : es[1]? = some (.pointer (some ⟨b, o, none⟩)) := by rw [← hes]; rfl
  generalize ha : (Act.mk (es ++ Array.replicate (38 - es.size) undef) []) = a
  have hsz : a.tmps.size = 38 := by rw [← ha]; exact start_size (by omega)
  have hde : a.defers = [] := by rw [← ha]
  have ht0 : a.tmps.getD 0 undef = .func (.yield l) #[] #[] := by rw [← ha]; exact start_get hes0
  have ht1 : a.tmps.getD 1 undef = .pointer (some ⟨b, o, none⟩) := by rw [← ha]; exact start_get hes1
  clear ha hes hes0 hes1 hes2
  have keepR : ∀ {av : AV} {v : Value} {W : World}, R w (.ext I) av v → Same I w W → R W (.ext I) av v := fun h hs => h.mono (.refl _) hs
  have ltI : ∀ {W : World}, Same I w W → ∀ b, I b → b < W.heap.size := fun {W} hs b hb => by
    have h1 := hs b hb
    have h2 := hI b hb
    rw [Array.getElem?_eq_getElem h2] at h1
    exact (Array.getElem?_eq_some_iff.1 h1).1
  -- region 0
  refine wpIn_seq (pieceI (G := []) (H := []) .nil hm (l := [(1, .rop [.ro n 2 (sg g)])]) (W := [7, 8, 9, 10, 3]) (K := fun e s => match e with | .normal => slot s.t 3 = i64 (IntKind.i64.wrap (n - 1)) | _ => False) (by kernel_rfl) (by kernel_rfl) (by kernel_rfl) ?_ hI hsz ?_ ?_)
  · refine awp_go (K1 := fun e t _ => match e with | .normal => slot t 3 = i64 (IntKind.i64.wrap (n - 1)) | _ => False) ?_
    simp only [go_sem, List.range, List.range.loop]
    exact fun _ => trivial
  · intro p hp; simp only [List.mem_singleton] at hp; subst hp; dsimp only; rw [ht1]; exact hvr
  intro e s1 ρ1 a1 w1 k1 k2
  cases e with
  | exit j => exact k1.elim
  | ret => exact k1.elim
  | normal =>
  have bel1 : RowKit.Below w.heap.size w w1 := k2.rel.below
  have hs1 : Same I w w1 := Same.of_below bel1 hI
  have hj1 : J 0 w1 := hJ 0 w w1 h0 bel1
  have u0 : a1.tmps.getD 0 undef = .func (.yield l) #[] #[] := (k2.frame 0 (show ¬ (0 : Nat) ∈ [7, 8, 9, 10, 3] by decide)).trans ht0
  have u1 : a1.tmps.getD 1 undef = .pointer (some ⟨b, o, none⟩) := (k2.frame 1 (show ¬ (1 : Nat) ∈ [7, 8, 9, 10, 3] by decide)).trans ht1
  have u3 := k2.val k1
  have usz := k2.size
  have ude : a1.defers = [] := k2.defers.trans hde
  clear k1 k2 s1 ρ1 hsz hde ht0 ht1
  -- region 1
  refine wpIn_seq (region_split (G := []) (nt := 38) (s := ⟨[(1, .rop [.v x])] ++ anyS (List.range 38), [], 0⟩) (ds := ⟨[], (· ∈ [11, 12, 13, 14]), a1.tmps⟩) .nil 2 (by decide) (K := fun s => slot s.t 12 = .v x) (by kernel_rfl) (fun j hj => hj) ?_ (SR.anew (ltI hs1) (slots_R usz ?_) usz ude (fun _ _ => rfl)) ?_)
  · refine regP_go (K1 := fun t _ => slot t 12 = .v x) ?_
    simp only [go_sem, List.range, List.range.loop]
  · intro p hp; simp only [List.mem_singleton] at hp; subst hp; dsimp only; rw [u1]; exact keepR hvx hs1
  intro s2 ρ2 a2 w2 k1 k2
  have bel2 : RowKit.Below w1.heap.size w1 w2 := k2.rel.below
  have hs2 : Same I w w2 := hs1.trans (Same.of_below bel2 (ltI hs1))
  have hj2 : J 0 w2 := hJ 0 w1 w2 hj1 bel2
  have v0 := (k2.frame 0 (show ¬ (0 : Nat) ∈ [11, 12, 13, 14] by decide)).trans u0
  have v1 := (k2.frame 1 (show ¬ (1 : Nat) ∈ [11, 12, 13, 14] by decide)).trans u1
  have v3 := (k2.frame 3 (show ¬ (3 : Nat) ∈ [11, 12, 13, 14] by decide)).trans u3
  have v12 := k2.val k1
  have vsz := k2.size
  have vde : a2.defers = [] := k2.defers
  clear k1 k2 s2 ρ2 usz ude u0 u1 u3 bel1 bel2 hj1 hs1
  refine region_rest (G := []) (nt := 38) (s := ⟨[(12, .ro n 2 (sg g))] ++ anyS (List.range 38), [], 0⟩) (ds := ⟨[], (· ∈ [13, 14]), a2.tmps⟩) .nil 2 (by decide) (K := fun s => slot s.t 13 = i64 n ∧ slot s.t 14 = i64 0) (by kernel_rfl) (fun j hj => hj) ?_ (SR.anew (ltI hs2) (slots_R vsz ?_) vsz vde (fun _ _ => rfl)) ?_
  · refine regP_go (K1 := fun t _ => slot t 13 = i64 n ∧ slot t 14 = i64 0) ?_
    simp only [go_sem, List.range, List.range.loop]
  · intro p hp; simp only [List.mem_singleton] at hp; subst hp; dsimp only; rw [v12]; exact keepR hxr hs2
  intro s3 ρ3 a3 w3 k1 k2
  have bel3 : RowKit.Below w2.heap.size w2 w3 := k2.rel.below
  have hs3 : Same I w w3 := hs2.trans (Same.of_below bel3 (ltI hs2))
  have hAt0 : At305 I w J l n (.pointer (some ⟨b, o, none⟩)) x 0 a3 w3 :=
    ⟨k2.size, k2.defers, (k2.frame 0 (show ¬ (0 : Nat) ∈ [13, 14] by decide)).trans v0, (k2.frame 1 (show ¬ (1 : Nat) ∈ [13, 14] by decide)).trans v1, (k2.frame 3 (show ¬ (3 : Nat) ∈ [13, 14] by decide)).trans v3,
      (k2.frame 12 (show ¬ (12 : Nat) ∈ [13, 14] by decide)).trans v12, k2.val k1.1, k2.val k1.2, Nat.zero_le _, hJ 0 w2 w3 hj2 bel3, hs3⟩
  clear k1 k2 s3 ρ3 bel3 hs3 hj2 hs2 v0 v1 v3 v12 vsz vde
  refine wpIn_block (wpIn_loop_rounds (n + 1) ?_)
  obtain ⟨i, hAt, hlt⟩ : ∃ i, At305 I w J l n (.pointer (some ⟨b, o, none⟩)) x i a3 w3 ∧ n - i < n + 1 := ⟨0, hAt0, by omega⟩
  clear hAt0
  generalize n + 1 = fuel at hlt ⊢
  induction fuel generalizing i a3 w3 with
  | zero => omega
  | succ fuel ih =>
  rw [roundsIn_succ]
  -- the guard
  refine wpIn_seq (pieceI (G := []) (H := []) .nil hm (l := [(13, i64 n), (14, i64 i)]) (W := [15]) (K := fun e s => match e with | .normal => slot s.t 15 = bo (decide ((i : Int) < n)) | _ => False) (by kernel_rfl) (by kernel_rfl) (by kernel_rfl) ?_ (ltI hAt.same) hAt.sz ?_ ?_)
  · refine awp_go (K1 := fun e t _ => match e with | .normal => slot t 15 = bo (decide ((i : Int) < n)) | _ => False) ?_
    simp only [go_sem, List.range, List.range.loop]
  · intro p hp
    simp only [List.mem_cons, List.mem_singleton, List.not_mem_nil, or_false] at hp
    rcases hp with rfl | rfl
    · dsimp only; rw [hAt.t13]; exact .v
    · dsimp only; rw [hAt.t14]; exact .v
  intro e s1 ρ1 a1 w1 k1 k2
  cases e with
  | exit j => exact k1.elim
  | ret => exact k1.elim
  | normal =>
  have bel1 : RowKit.Below w3.heap.size w3 w1 := k2.rel.below
  have hs1 : Same I w w1 := hAt.same.trans (Same.of_below bel1 (ltI hAt.same))
  have hj1 : J i w1 := hJ i w3 w1 hAt.j bel1
  have v15 := k2.val k1
  have d1 : a1.defers = [] := k2.defers.trans hAt.de
  have z1 := k2.size
  have f1 : ∀ j, ¬ j ∈ [15] → a1.tmps.getD j undef = a3.tmps.getD j undef := k2.frame
  clear k1 k2 s1 ρ1
  refine wpIn_seq (wpIn_cond_split (t := decide ((i : Int) < n)) v15 ?_ ?_)
  case refine_2 =>
    intro hf
    have hin : i = n := by have := hAt.le; simp at hf; omega
    subst hin
    refine wpIn_exit ?_
    show LeavesInM Fence.wide nn Tryz.prog Tryz.f305 a1.tmps _ a1.defers .returning w1
    exact leave_nil d1 rfl fun v => ⟨⟨v, rfl⟩, .inl hj1⟩
  intro ht
  have hin : i < n := by simp at ht; omega
  refine wpIn_skip ?_
  have r0 : gx (sg g) 0 i = gx g 0 i := rfl
  obtain ⟨K1, hK1⟩ : ∃ K1 : Slots → Prop, K1 = fun t => slot t 32 = .v (.func (.yield l) #[] #[]) ∧ [slot t 33, slot t 34] = edgeE n g i := ⟨_, rfl⟩
  refine wpIn_seq (wpIn_block (piece3 (G := []) (H := []) .nil hm (k := 3) (K1 := K1) (l := [(0, .v (.func (.yield l) #[] #[])), (1, .rop [.ro n 2 (sg g)]), (3, i64 (IntKind.i64.wrap (n - 1))), (12, .ro n 2 (sg g)), (14, i64 i)]) (by decide) (by kernel_rfl) (by kernel_rfl) rfl ?_ (ltI hs1) z1 ?_ ?_))
  · show goC Tryz.prog [] [] (preK Tryz.prog [] _ 3 K1) _ [] _
    simp only [go_sem, List.range, List.range.loop, preK_normal, sg_eq]
    have hw : IntKind.i64.wrap ((n : Int) - 1) = n - 1 := wrap_in (by unfold inR; omega)
    subst hK1
    refine ⟨by omega, by omega, by omega, fun h z hz => ?_, fun h => ?_⟩
    · rw [hw] at h
      have e1 : IntKind.i64.wrap ((i : Int) + 1) = i + 1 := wrap_in (by unfold inR; omega)
      rw [e1] at hz
      have e2 : z.toNat = i + 1 := by omega
      have e3 : nxt n i = i + 1 := by unfold nxt; rw [if_pos (by omega)]
      refine ⟨by omega, by omega, ?_⟩
      simp only [slot_cons, Nat.reduceEqDiff, if_true, if_false, reduceIte, true_and, edgeE, e3, e2, gx]
    · rw [hw] at h
      have e3 : nxt n i = 0 := by unfold nxt; rw [if_neg (by omega)]
      simp only [slot_cons, Nat.reduceEqDiff, if_true, if_false, reduceIte, true_and, edgeE, e3, gx]
  · intro p hp
    simp only [List.mem_cons, List.mem_singleton, List.not_mem_nil, or_false] at hp
    rcases hp with rfl | rfl | rfl | rfl | rfl
    · dsimp only; rw [f1 0 (by decide), hAt.t0]; exact .v
    · dsimp only; rw [f1 1 (by decide), hAt.t1]; exact keepR hvr hs1
    · dsimp only; rw [f1 3 (by decide), hAt.t3]; exact .v
    · dsimp only; rw [f1 12 (by decide), hAt.t12]; exact keepR hxr hs1
    · dsimp only; rw [f1 14 (by decide), hAt.t14]; exact .v
  intro t' m' D' ρ' a2 w2 k1 k2
  subst hK1
  have bel2 : RowKit.Below w1.heap.size w1 w2 := k2.rel.below
  have hs2 : Same I w w2 := hs1.trans (Same.of_below bel2 (ltI hs1))
  have hj2 : J i w2 := hJ i w1 w2 hj1 bel2
  have v32 := k2.val k1.1
  have e33 : slot t' 33 = .agg [i64 (gx g 0 i), i64 (gx g 1 i)] := by have := k1.2; unfold edgeE at this; simpa using (List.cons.inj this).1
  have e34 : slot t' 34 = .agg [i64 (gx g 0 (nxt n i)), i64 (gx g 1 (nxt n i))] := by have := k1.2; unfold edgeE at this; simpa using (List.cons.inj (List.cons.inj this).2).1
  have hargs : Rs w2 (.ext I) (edgeE n g i) [a2.tmps.getD 33 undef, a2.tmps.getD 34 undef] := by
    have q33 := k2.slots 33
    have q34 := k2.slots 34
    rw [e33] at q33
    rw [e34] at q34
    exact .cons (plain_sound 3 rfl q33) (.cons (plain_sound 3 rfl q34) .nil)
  have d2 : a2.defers = [] := k2.defers.trans d1
  have z2 := k2.size
  have f2 := k2.frame
  clear k1 e33 e34
  rw [show List.range' 3 (Array.size _ - 3) = [3, 4] from rfl]
  have z35 : 35 < a2.tmps.size := by rw [z2]; decide
  refine wpOps_free rfl rfl (yield_op (l := l) [a2.tmps.getD 33 undef, a2.tmps.getD 34 undef] rfl v32 (by simp [Act.eval]) (hy i w2 _ hin hj2 hs2 hargs) ?_)
  intro e W hpost
  obtain ⟨r, he, hsm, hjt, hjf⟩ : ∃ r, e = .returned (.bool r) ∧ Same I w2 W ∧ (r = true → J (i + 1) W) ∧ (r = false → Jx W) := by
    obtain ⟨hsm, ⟨rfl, hj⟩ | ⟨rfl, hj⟩⟩ := hpost
    · exact ⟨true, rfl, hsm, fun _ => hj, fun h => (by cases h)⟩
    · exact ⟨false, rfl, hsm, fun h => (by cases h), fun _ => hj⟩
  subst he
  refine ⟨_, rfl, ?_⟩
  show wpOpsIn (Fw none) nn Tryz.prog _ _ [4] (a2.put (some 35) (.bool r)) W
  have hs4 : Same I w W := hs2.trans hsm
  refine region_rest (G := []) (nt := 38) (s := ⟨[(35, bo r)] ++ anyS (List.range 38), [], 0⟩) (ds := ⟨[], (· ∈ [36]), (a2.put (some 35) (.bool r)).tmps⟩) .nil 4 (by decide) (K := fun s => slot s.t 36 = bo (!r)) (by kernel_rfl) (fun j hj => hj) ?_ (SR.anew (ltI hs4) (slots_R ((put_size _ _).trans z2) ?_) ((put_size _ _).trans z2) d2 (fun _ _ => rfl)) ?_
  · refine regP_go (K1 := fun t _ => slot t 36 = bo (!r)) ?_
    simp only [go_sem, List.range, List.range.loop]
  · intro p hp; simp only [List.mem_singleton] at hp; subst hp; dsimp only; rw [put_at z35]; exact .v
  intro s5 ρ5 a5 w5 q1 q2
  have bel5 : RowKit.Below W.heap.size W w5 := q2.rel.below
  have hs5 : Same I w w5 := hs4.trans (Same.of_below bel5 (ltI hs4))
  have d5 : a5.defers = [] := q2.defers
  have z5 := q2.size
  have f5 : ∀ j, ¬ j ∈ [36] → 35 ≠ j → a5.tmps.getD j undef = a2.tmps.getD j undef := fun j h1 h2 => (q2.frame j h1).trans (put_not z35 h2)
  have v36 := q2.val q1
  clear q1 q2
  refine wpIn_cond_split v36 (fun hb => ?_) (fun hb => ?_)
  · have hr : r = false := by simpa using hb
    have hjx : Jx w5 := hJx W w5 (hjf hr) bel5
    refine wpIn_ret ?_
    show LeavesInM Fence.wide nn Tryz.prog Tryz.f305 a5.tmps _ a5.defers .returning w5
    exact leave_nil d5 rfl fun v => ⟨⟨v, rfl⟩, .inr hjx⟩
  · have hr : r = true := by simpa using hb
    have hj5 : J (i + 1) w5 := hJ (i + 1) W w5 (hjt hr) bel5
    refine wpIn_skip ?_
    show Code.wpIn Fence.wide nn Tryz.prog (Code.region 8 _ false) _ a5 w5
    have g2 : ∀ j, ¬ j ∈ [15] → ¬ j ∈ [16, 17, 18, 5, 4, 19, 20, 21, 22, 6, 23, 24, 25, 26, 27, 28, 29, 30, 31, 32, 33, 34, 35, 36] → a5.tmps.getD j undef = a3.tmps.getD j undef := fun j h1 h2 => by
      rw [f5 j (fun h => h2 (by simp at h; subst h; decide)) (fun h => h2 (by subst h; decide)), f2 j h2, f1 j h1]
    refine pieceI (G := []) (H := []) .nil hm (l := [(14, i64 i)]) (W := [37, 14]) (K := fun e s => match e with | .normal => slot s.t 14 = i64 (i + 1) | _ => False) (by kernel_rfl) (by kernel_rfl) (by kernel_rfl) ?_ (ltI hs5) z5 ?_ ?_
    · refine awp_go (K1 := fun e t _ => match e with | .normal => slot t 14 = i64 (i + 1) | _ => False) ?_
      simp only [go_sem, List.range, List.range.loop]
      intro z hz
      have e1 : IntKind.i64.wrap ((i : Int) + 1) = i + 1 := wrap_in (by unfold inR; omega)
      rw [hz, e1]
    · intro p hp; simp only [List.mem_singleton] at hp; subst hp; dsimp only; rw [g2 14 (by decide) (by decide), hAt.t14]; exact .v
    intro e s6 ρ6 a6 w6 q1 q2
    cases e with
    | exit j => exact q1.elim
    | ret => exact q1.elim
    | normal =>
    have bel6 : RowKit.Below w5.heap.size w5 w6 := q2.rel.below
    have f6 : ∀ j, ¬ j ∈ [37, 14] → a6.tmps.getD j undef = a5.tmps.getD j undef := q2.frame
    refine ih a6 w6 (i + 1) ⟨q2.size, q2.defers.trans d5, ?_, ?_, ?_, ?_, ?_, ?_, by omega, hJ (i + 1) w5 w6 hj5 bel6, hs5.trans (Same.of_below bel6 (ltI hs5))⟩ (by omega)
    · rw [f6 0 (by decide), g2 0 (by decide) (by decide), hAt.t0]
    · rw [f6 1 (by decide), g2 1 (by decide) (by decide), hAt.t1]
    · rw [f6 3 (by decide), g2 3 (by decide) (by decide), hAt.t3]
    · rw [f6 12 (by decide), g2 12 (by decide) (by decide), hAt.t12]
    · rw [f6 13 (by decide), g2 13 (by decide) (by decide), hAt.t13]
    · have := q2.val q1; rw [this]; rfl
end Go.Ax
end
