/-
  Numbers: the reference's arithmetic.
-/
import Derived.Test.YtiikkfegcmejcaaGreatCM3
section
set_option linter.unusedVariables false
set_option linter.unusedSimpArgs false
set_option maxHeartbeats 4000000
set_option maxRecDepth 100000
namespace Go.Ax
open Go.Proofs
theorem eq145 {xo yo : Operand} {neg : Bool} {a b : Int} {g : Bool} {x y : Int} {e : Bool} : eqE Tryz.prog neg 145 xo yo (.agg [bo g, u64 a, u64 b]) (.agg [bo e, u64 x, u64 y]) = some ⟨[], .v (.bool (negV neg ((g == e) && ((a == x) && ((b == y) && true))))), .none⟩ := eqE_agg (by kernel_rfl)
attribute [go_sem] eq145

def c109 : Con
  | [.agg [.v (.int .i64 v), .v (.bool f)]] => some ([], .tup [i64 (whV v), bo (whF v f)])
  | _ => none
theorem con109 : ConOK Tryz.prog 109 c109 := ConOK.of (G := []) (H := []) .nil Tryz.func109 fun l ob r hc hob => by
  unfold c109 at hc
  split at hc
  · rename_i v f
    cases hc
    refine ⟨by kernel_rfl, fnVC_go (rs := [.tmp 2, .tmp 3]) rfl rfl ?_⟩
    simp only [go_sem]
    unfold whV whF
    refine ⟨fun h => ?_, fun h => ?_⟩
    · have h : v = -9223372036854775808 := by simpa using h
      rw [if_pos h, decide_eq_true h]; rfl
    · have h : ¬ v = -9223372036854775808 := by simpa using h
      rw [if_neg h, decide_eq_false h]; rfl
  · cases hc
def c120 : Con
  | [.v (.int .i64 v)] => some ([inR v], u64 (ab v))
  | _ => none
theorem con120 : ConOK Tryz.prog 120 c120 := ConOK.of (G := []) (H := []) .nil Tryz.func120 fun l ob r hc hob => by
  unfold c120 at hc
  split at hc
  · rename_i v
    cases hc
    have h_0 : inR v := hob _ (by simp)
    refine ⟨by kernel_rfl, fnVC_go (rs := [.tmp 2]) rfl rfl ?_⟩
    simp only [go_sem]
    unfold inR at h_0
    refine ⟨fun h z hz z1 hz1 => ?_, fun h z hz => ?_⟩
    · rw [hz1, hz, wrap_u64, wrap_i64]; unfold ab; rw [if_pos h]; omega
    · rw [hz, wrap_u64]; unfold ab; rw [if_neg h]; omega
  · cases hc
def c115 : Con
  | [.v (.int .i64 v)] => some ([inR v], wd (decide (v < 0)) (ab v))
  | _ => none
theorem con115 : ConOK Tryz.prog 115 c115 := ConOK.of (G := [(120, c120)]) (H := []) (.cons con120 .nil) Tryz.func115 fun l ob r hc hob => by
  unfold c115 at hc
  split at hc
  · rename_i v
    cases hc
    have h_0 : inR v := hob _ (by simp)
    refine ⟨by kernel_rfl, fnVC_go (rs := [.cell 2 145]) rfl rfl ?_⟩
    simp only [go_sem, c120]
    intro z hz
    have h1 := ab_nonneg v
    have h2 : ab v ≤ 9223372036854775808 := by unfold inR at h_0; exact ab_le (by omega) (by omega)
    refine ⟨h_0, agg3 rfl (u64_eq (by omega)) (u64_eq (by omega))⟩
  · cases hc
def c148 : Con
  | [.agg [.v (.bool g), .v (.int .u64 h), .v (.int .u64 l)], .agg [.v (.bool e), .v (.int .u64 i), .v (.int .u64 k)]] => some ([inU l, inU h, inU k, inU i], bo (decide (jn h l < jn i k)))
  | _ => none
theorem con148 : ConOK Tryz.prog 148 c148 := ConOK.of (G := []) (H := []) .nil Tryz.func148 fun l ob r hc hob => by
  unfold c148 at hc
  split at hc
  · rename_i g h l e i k
    cases hc
    have h_0 : inU l := hob _ (by simp)
    have h_1 : inU h := hob _ (by simp)
    have h_2 : inU k := hob _ (by simp)
    have h_3 : inU i := hob _ (by simp)
    refine ⟨by kernel_rfl, fnVC_go (rs := [.tmp 4]) rfl rfl ?_⟩
    simp only [go_sem]
    unfold inU at *
    refine ⟨fun h1 h2 => ⟨h1, h2⟩, ?_⟩
    rw [Bool.eq_iff_iff]
    simp only [Bool.or_eq_true, Bool.and_eq_true, decide_eq_true_eq, beq_iff_eq]
    unfold jn
    omega
  · cases hc
def c117 : Con
  | [.v (.int .i64 a), .v (.int .i64 b)] => some ([inR a, inR b], wd (decide (a * b < 0)) (ab (a * b)))
  | _ => none
theorem con117 : ConOK Tryz.prog 117 c117 := ConOK.of (G := [(120, c120), (186, c186)]) (H := []) (.cons con120 (.cons con186 .nil)) Tryz.func117 fun l ob r hc hob => by
  unfold c117 at hc
  split at hc
  · rename_i a b
    cases hc
    have h_0 : inR a := hob _ (by simp)
    have h_1 : inR b := hob _ (by simp)
    refine ⟨by kernel_rfl, fnVC_go (rs := [.cell 4 145]) rfl rfl ?_⟩
    simp only [go_sem, c120, c186]
    simp only [forall_eq]
    have ha := ab_nonneg a
    have hb := ab_nonneg b
    have ka : ab a ≤ 9223372036854775808 := by unfold inR at h_0; exact ab_le (by omega) (by omega)
    have kb : ab b ≤ 9223372036854775808 := by unfold inR at h_1; exact ab_le (by omega) (by omega)
    have em : ab (a * b) = ab a * ab b := by rw [ab_natAbs, ab_natAbs, ab_natAbs, Int.natAbs_mul, Int.natCast_mul]
    refine ⟨h_0, h_1, by unfold inU; omega, by unfold inU; omega, ?_⟩
    rw [em]
    refine agg3 (bo_eq ?_) rfl rfl
    rcases Int.lt_trichotomy a 0 with h1 | h1 | h1 <;> rcases Int.lt_trichotomy b 0 with h2 | h2 | h2
    · have := Int.mul_pos_of_neg_of_neg h1 h2
      rw [decide_eq_true h1, decide_eq_true h2, decide_eq_false (show ¬ a * b < 0 by omega)]; rfl
    · subst h2; simp
    · have := Int.mul_neg_of_neg_of_pos h1 h2
      rw [decide_eq_true h1, decide_eq_false (show ¬ b < 0 by omega), decide_eq_true this, bne_iff_ne.2 (show a ≠ 0 by omega), bne_iff_ne.2 (show b ≠ 0 by omega)]; rfl
    · subst h1; simp
    · subst h1; simp
    · subst h1; simp
    · have := Int.mul_neg_of_pos_of_neg h1 h2
      rw [decide_eq_false (show ¬ a < 0 by omega), decide_eq_true h2, decide_eq_true this, bne_iff_ne.2 (show a ≠ 0 by omega), bne_iff_ne.2 (show b ≠ 0 by omega)]; rfl
    · subst h2; simp
    · have := Int.mul_pos h1 h2
      rw [decide_eq_false (show ¬ a < 0 by omega), decide_eq_false (show ¬ b < 0 by omega), decide_eq_false (show ¬ a * b < 0 by omega)]; rfl
  · cases hc
def c116 : Con
  | [.agg [.v (.bool g), .v (.int .u64 h), .v (.int .u64 l)]] => some ([inU l, inU h], wd g (jn h l / 4294967296))
  | _ => none
theorem con116 : ConOK Tryz.prog 116 c116 := ConOK.of (G := []) (H := []) .nil Tryz.func116 fun l ob r hc hob => by
  unfold c116 at hc
  split at hc
  · rename_i g h l
    cases hc
    have h_0 : inU l := hob _ (by simp)
    have h_1 : inU h := hob _ (by simp)
    refine ⟨by kernel_rfl, fnVC_go (rs := [.cell 2 145]) rfl rfl ?_⟩
    simp only [go_sem]
    intro z3 hz3 z hz z1 hz1 z2 hz2
    have e := orI_u h_1 h_0
    unfold inU at h_0 h_1
    refine agg3 rfl (u64_eq ?_) (u64_eq ?_)
    · rw [hz3]; unfold jn; omega
    · rw [hz2, hz, hz1, e]; unfold jn; omega
  · cases hc
def c114 : Con
  | [.agg [.v (.bool g), .v (.int .u64 h), .v (.int .u64 l)]] => some ([inU l, inU h, h < 4294967296], wd g (jn h l * 4294967296))
  | _ => none
theorem con114 : ConOK Tryz.prog 114 c114 := ConOK.of (G := []) (H := []) .nil Tryz.func114 fun l ob r hc hob => by
  unfold c114 at hc
  split at hc
  · rename_i g h l
    cases hc
    have h_0 : inU l := hob _ (by simp)
    have h_1 : inU h := hob _ (by simp)
    have h_2 : h < 4294967296 := hob _ (by simp)
    refine ⟨by kernel_rfl, fnVC_go (rs := [.cell 2 145]) rfl rfl ?_⟩
    simp only [go_sem]
    intro z1 hz1 z2 hz2 z3 hz3 z hz
    have e := orI_u h_1 h_0
    unfold inU at h_0 h_1
    refine agg3 rfl (u64_eq ?_) (u64_eq ?_)
    · rw [hz3, hz1, hz2, e]; unfold jn; omega
    · rw [hz, wrap_u64]; unfold jn; omega
  · cases hc
def rpG (g : Bool) (m : Int) (g' : Bool) (m' : Int) : Bool := if g = g' then g else (plG g m g' m' && decide (plM g m g' m' ≠ 0))
def c183 : Con
  | [.agg [.v (.bool g), .v (.int .u64 h), .v (.int .u64 l)], .agg [.v (.bool e), .v (.int .u64 i), .v (.int .u64 k)]] => some ([inU l, inU h, inU k, inU i, jn h l + jn i k < 340282366920938463463374607431768211456], wd (rpG g (jn h l) e (jn i k)) (plM g (jn h l) e (jn i k)))
  | _ => none
theorem con183 : ConOK Tryz.prog 183 c183 := ConOK.of (G := [(217, c217), (218, c218), (148, c148)]) (H := []) (.cons con217 (.cons con218 (.cons con148 .nil))) Tryz.func183 fun l ob r hc hob => by
  unfold c183 at hc
  split at hc
  · rename_i g h l e i k
    cases hc
    have h_0 : inU l := hob _ (by simp)
    have h_1 : inU h := hob _ (by simp)
    have h_2 : inU k := hob _ (by simp)
    have h_3 : inU i := hob _ (by simp)
    have h_4 : jn h l + jn i k < 340282366920938463463374607431768211456 := hob _ (by simp)
    refine ⟨by kernel_rfl, fnVC_go (rs := [.cell 4 145]) rfl rfl ?_⟩
    simp only [go_sem, c217, c218, c148]
    have hl := h_0
    have hh := h_1
    have hk := h_2
    have hi := h_3
    have hs := h_4
    refine ⟨fun hg z hz z1 hz1 => ⟨hl, hk, fun z2 hz2 z3 hz3 => ⟨hh, hi, ?_⟩⟩, fun hg z hz => ⟨hl, hh, hk, hi, fun hc z4 hz4 z1 hz1 => ⟨hk, hl, fun z2 hz2 z3 hz3 => ⟨hi, hh, ?_⟩⟩, fun hc z4 hz4 z1 hz1 => ⟨hl, hk, fun z2 hz2 z3 hz3 => ⟨hh, hi, ?_⟩⟩⟩⟩
    · have hg : g = e := by simpa using hg
      unfold inU at hl hh hk hi
      unfold rpG plM
      rw [if_pos hg, if_pos hg]
      unfold jn at hs ⊢
      refine ⟨by omega, agg3 rfl (u64_eq (by omega)) (u64_eq (by omega))⟩
    · have hg : ¬ g = e := by simpa using hg
      have hlt : jn h l < jn i k := by rw [hz] at hc; simpa using hc
      unfold inU at hl hh hk hi
      unfold rpG plG plM
      rw [if_neg hg, if_neg hg, if_neg hg, if_pos hlt, if_pos hlt]
      unfold jn at hs hlt ⊢
      refine ⟨by split at hz1 <;> omega, fun h1 h2 => ⟨h1, h2⟩, agg3 (bo_eq ?_) (u64_eq (by split at hz1 <;> omega)) (u64_eq (by omega))⟩
      congr 1
      rw [Bool.eq_iff_iff]
      simp only [Bool.or_eq_true, bne_iff_ne, decide_eq_true_eq]
      split at hz1 <;> omega
    · have hg : ¬ g = e := by simpa using hg
      have hlt : ¬ jn h l < jn i k := by rw [hz] at hc; simpa using hc
      unfold inU at hl hh hk hi
      unfold rpG plG plM
      rw [if_neg hg, if_neg hg, if_neg hg, if_neg hlt, if_neg hlt]
      unfold jn at hs hlt ⊢
      refine ⟨by split at hz1 <;> omega, fun h1 h2 => ⟨h1, h2⟩, agg3 (bo_eq ?_) (u64_eq (by split at hz1 <;> omega)) (u64_eq (by omega))⟩
      congr 1
      rw [Bool.eq_iff_iff]
      simp only [Bool.or_eq_true, bne_iff_ne, decide_eq_true_eq]
      split at hz1 <;> omega
  · cases hc
def c113 : Con
  | [.agg [.v (.bool g), .v (.int .u64 h), .v (.int .u64 l)], .v (.bool f)] => some ([inU l, inU h], .agg [i64 (ftV (sgn g (jn h l))), bo (ftF (sgn g (jn h l)) || f)])
  | _ => none
theorem con113 : ConOK Tryz.prog 113 c113 := ConOK.of (G := []) (H := []) .nil Tryz.func113 fun l ob r hc hob => by
  unfold c113 at hc
  split at hc
  · rename_i g h l f
    cases hc
    have h_0 : inU l := hob _ (by simp)
    have h_1 : inU h := hob _ (by simp)
    refine ⟨by kernel_rfl, fnVC_go (rs := [.cell 4 26]) rfl rfl ?_⟩
    simp only [go_sem]
    have hl := h_0
    have hh := h_1
    unfold inU at hl hh
    have e : ∀ {a a' : Int} {b b' : Bool}, a = a' → b = b' → AV.agg [i64 a, bo b] = .agg [i64 a', bo b'] := fun h1 h2 => by rw [h1, h2]
    refine ⟨fun h2 => ?_, fun h2 z hz => ?_⟩
    · have hb : 9223372036854775807 < jn h l := by
        unfold jn
        rcases h2 with h2 | h2
        · rw [bne_iff_ne] at h2; omega
        · omega
      refine ⟨fun hg z hz => ?_, fun hg => ?_⟩
      · have : sgn g (jn h l) = -jn h l := by unfold sgn; rw [if_pos hg]
        rw [this]
        refine e ?_ ?_
        · rw [hz, wrap_in (by unfold inR; omega)]; unfold ftV; rw [if_neg (by omega), if_pos (by omega)]; rfl
        · unfold ftF; rw [decide_eq_true (by omega)]; rfl
      · have : sgn g (jn h l) = jn h l := by unfold sgn; rw [hg]; simp
        rw [this]
        refine e ?_ ?_
        · unfold ftV; rw [if_pos hb]
        · unfold ftF; rw [decide_eq_true (by omega)]; rfl
    · have h0 : h = 0 := by simpa using h2.1
      have h3 := h2.2
      have hj : jn h l = l := by unfold jn; omega
      have hw : z = l := by rw [hz]; exact wrap_in (by unfold inR; omega)
      rw [hj]
      refine ⟨fun hg z1 hz1 => ?_, fun hg => ?_⟩
      · have : sgn g l = -l := by unfold sgn; rw [if_pos hg]
        rw [this]
        have hr : rg (-l) := by unfold rg; omega
        refine e ?_ (by rw [ftF_of hr]; rfl)
        rw [ftV_of hr, hz1, hw, wrap_in (by unfold inR; omega)]; omega
      · have : sgn g l = l := by unfold sgn; rw [hg]; simp
        rw [this]
        have hr : rg l := by unfold rg; omega
        exact e (by rw [ftV_of hr, hw]) (by rw [ftF_of hr]; rfl)
  · cases hc
def c118 : Con
  | [.v (.int .i64 a)] => some ([], .agg [i64 (cmpS a 0 * 9223372036854775807), bo true])
  | _ => none
theorem con118 : ConOK Tryz.prog 118 c118 := ConOK.of (G := []) (H := []) .nil Tryz.func118 fun l ob r hc hob => by
  unfold c118 at hc
  split at hc
  · rename_i a
    cases hc
    refine ⟨by kernel_rfl, fnVC_go (rs := [.cell 2 26]) rfl rfl ?_⟩
    simp only [go_sem]
    unfold cmpS
    refine ⟨fun h => ?_, fun h => ⟨fun h1 => ?_, fun h1 => ?_⟩⟩
    · rw [if_neg (by omega), if_pos h]; rfl
    · rw [if_pos h1]; rfl
    · rw [if_neg h1, if_neg h]; rfl
  · cases hc
theorem rp_sgn {g g' : Bool} {m m' : Int} : sgn (rpG g m g' m') (plM g m g' m') = sgn g m + sgn g' m' := by
  rw [← pl_sgn]
  unfold rpG
  by_cases h : g = g'
  · rw [if_pos h]; unfold plG; rw [if_pos h]
  · rw [if_neg h]
    by_cases h0 : plM g m g' m' = 0
    · rw [h0]; unfold sgn; split <;> split <;> rfl
    · rw [decide_eq_true h0, Bool.and_true]
theorem sgn_rp_div {g : Bool} {e f : Bool} {x y d : Int} : sgn g (plM e (ab x) f (ab y) / d) = (sgn g (plM e (ab x) f (ab y))).tdiv d := sgn_div (plM_nonneg (ab_nonneg x) (ab_nonneg y))
theorem andI_1 {x : Int} (hx : inR x) : andI .i64 x 1 = x % 2 := by
  unfold andI
  have e1 : (BitVec.ofInt IntKind.i64.bits 1).toNat = 1 := by decide
  have e2 : (BitVec.ofInt IntKind.i64.bits x).toNat = (x % 18446744073709551616).toNat := by
    show (BitVec.ofInt 64 x).toNat = _
    rw [BitVec.toNat_ofInt]
    have e : ((2 ^ 64 : Nat) : Int) = 18446744073709551616 := by decide
    rw [e]
  rw [BitVec.toNat_and, e1, e2, Nat.and_one_is_mod, wrap_in (by unfold inR; omega)]
  omega
def c50 : Con
  | [.v (.int .i64 n)] => some ([inR n], nu (n * 4294967296) false)
  | _ => none
theorem con50 : ConOK Tryz.prog 50 c50 := ConOK.of (G := [(115, c115), (114, c114), (113, c113)]) (H := []) (.cons con115 (.cons con114 (.cons con113 .nil))) Tryz.func50 fun l ob r hc hob => by
  unfold c50 at hc
  split at hc
  · rename_i n
    cases hc
    have h_0 : inR n := hob _ (by simp)
    refine ⟨by kernel_rfl, fnVC_go (rs := [.cell 2 26]) rfl rfl ?_⟩
    simp only [go_sem, c115, c114, c113]
    simp only [forall_eq, mod_jn, Bool.or_false]
    have ha := ab_nonneg n
    have hb : ab n ≤ 9223372036854775808 := by unfold inR at h_0; exact ab_le (by omega) (by omega)
    refine ⟨h_0, inU_mod, inU_div ha (by omega), by omega, inU_mod, inU_div (by omega) (by omega), ?_⟩
    have e : sgn (decide (n < 0)) (ab n * 4294967296) = n * 4294967296 := by
      unfold sgn ab
      by_cases h : n < 0
      · simp [h, Int.neg_mul]
      · simp [h]
    rw [e]
    refine agg2 rfl ?_
    simp
  · cases hc
def c111 : Con
  | [.agg [.v (.int .i64 v), .v (.bool f)]] => some ([inR v], .agg [i64 (-whV v), bo (whF v f)])
  | _ => none
theorem con111 : ConOK Tryz.prog 111 c111 := ConOK.of (G := [(109, c109)]) (H := []) (.cons con109 .nil) Tryz.func111 fun l ob r hc hob => by
  unfold c111 at hc
  split at hc
  · rename_i v f
    cases hc
    have h_0 : inR v := hob _ (by simp)
    refine ⟨by kernel_rfl, fnVC_go (rs := [.cell 2 26]) rfl rfl ?_⟩
    simp only [go_sem, c109]
    simp only [forall_eq]
    have h2 := whV_rg h_0
    unfold rg at *
    rw [wrap_in (by unfold inR; omega)]
    refine agg2 (i64_eq (by omega)) rfl
  · cases hc
def c45 : Con
  | [.agg [.v (.int .i64 v), .v (.bool f)]] => some ([inR v], .agg [i64 (ab (whV v)), bo (whF v f)])
  | _ => none
theorem con45 : ConOK Tryz.prog 45 c45 := ConOK.of (G := [(109, c109)]) (H := []) (.cons con109 .nil) Tryz.func45 fun l ob r hc hob => by
  unfold c45 at hc
  split at hc
  · rename_i v f
    cases hc
    have h_0 : inR v := hob _ (by simp)
    refine ⟨by kernel_rfl, fnVC_go (rs := [.cell 2 26]) rfl rfl ?_⟩
    simp only [go_sem, c109]
    simp only [forall_eq]
    have h2 := whV_rg h_0
    unfold rg at *
    rw [wrap_in (by unfold inR; omega)]
    refine ⟨fun h => agg2 (i64_eq (by unfold ab; rw [if_pos h]; omega)) rfl, fun h => agg2 (i64_eq (by unfold ab; rw [if_neg h])) rfl⟩
  · cases hc
def c52 : Con
  | [.agg [.v (.int .i64 v), .v (.bool f)], .agg [.v (.int .i64 u), .v (.bool e)]] => some ([inR v, inR u], nu ((whV v * whV u).tdiv 4294967296) (whF v f || whF u e))
  | _ => none
theorem con52 : ConOK Tryz.prog 52 c52 := ConOK.of (G := [(109, c109), (117, c117), (116, c116), (113, c113)]) (H := []) (.cons con109 (.cons con117 (.cons con116 (.cons con113 .nil)))) Tryz.func52 fun l ob r hc hob => by
  unfold c52 at hc
  split at hc
  · rename_i v f u e
    cases hc
    have h_0 : inR v := hob _ (by simp)
    have h_1 : inR u := hob _ (by simp)
    refine ⟨by kernel_rfl, fnVC_go (rs := [.cell 4 26]) rfl rfl ?_⟩
    simp only [go_sem, c109, c117, c116, c113]
    simp only [forall_eq, mod_jn, sgn_ab_div, sgn_ab]
    have k := mul_rg (inR_wh h_0) (inR_wh h_1)
    have k0 := ab_nonneg (whV v * whV u)
    exact ⟨inR_wh h_0, inR_wh h_1, inU_mod, inU_div k0 (by omega), inU_mod, inU_div (by omega) (by omega), trivial⟩
  · cases hc
def c136 : Con
  | [.agg [.v (.int .i64 v), .v (.bool f)], .agg [.v (.int .i64 u), .v (.bool e)], .agg [.v (.int .i64 x), .v (.bool p)], .agg [.v (.int .i64 y), .v (.bool q)]] => some ([inR v, inR u, inR x, inR y], nu ((whV v * whV u + whV x * whV y).tdiv 4294967296) (whF v f || whF u e || whF x p || whF y q))
  | _ => none
theorem con136 : ConOK Tryz.prog 136 c136 := ConOK.of (G := [(109, c109), (117, c117), (183, c183), (116, c116), (113, c113)]) (H := []) (.cons con109 (.cons con117 (.cons con183 (.cons con116 (.cons con113 .nil))))) Tryz.func136 fun l ob r hc hob => by
  unfold c136 at hc
  split at hc
  · rename_i v f u e x p y q
    cases hc
    have h_0 : inR v := hob _ (by simp)
    have h_1 : inR u := hob _ (by simp)
    have h_2 : inR x := hob _ (by simp)
    have h_3 : inR y := hob _ (by simp)
    refine ⟨by kernel_rfl, fnVC_go (rs := [.cell 8 26]) rfl rfl ?_⟩
    simp only [go_sem, c109, c117, c183, c116, c113]
    simp only [forall_eq, mod_jn, sgn_rp_div, sgn_ab, rp_sgn]
    have k := mul_rg (inR_wh h_0) (inR_wh h_1)
    have k0 := ab_nonneg (whV v * whV u)
    have j := mul_rg (inR_wh h_2) (inR_wh h_3)
    have j0 := ab_nonneg (whV x * whV y)
    have p0 := plM_nonneg (g := decide (whV v * whV u < 0)) (g' := decide (whV x * whV y < 0)) k0 j0
    have p1 := plM_le (g := decide (whV v * whV u < 0)) (g' := decide (whV x * whV y < 0)) k0 j0
    refine ⟨inR_wh h_0, inR_wh h_1, inR_wh h_2, inR_wh h_3, inU_mod, inU_div k0 (by omega), inU_mod, inU_div j0 (by omega), by omega, inU_mod, inU_div p0 (by omega), inU_mod, inU_div (by omega) (by omega), ?_⟩
    trivial
  · cases hc
def c96 : Con
  | [.agg [.v (.int .i64 v), .v (.bool f)], .agg [.v (.int .i64 u), .v (.bool e)]] => some ([], i64 (cmpS (whV v) (whV u)))
  | _ => none
theorem con96 : ConOK Tryz.prog 96 c96 := ConOK.of (G := [(109, c109)]) (H := []) (.cons con109 .nil) Tryz.func96 fun l ob r hc hob => by
  unfold c96 at hc
  split at hc
  · rename_i v f u e
    cases hc
    refine ⟨by kernel_rfl, fnVC_go (rs := [.tmp 4]) rfl rfl ?_⟩
    simp only [go_sem, c109]
    simp only [forall_eq]
    unfold cmpS
    exact ⟨fun h => by rw [if_pos h], fun h => ⟨fun h2 => by rw [if_neg h, if_pos h2], fun h2 => by rw [if_neg h, if_neg h2]⟩⟩
  · cases hc
def c51 : Con
  | [.agg [.v (.int .i64 v), .v (.bool f)]] => some ([inR v], i64 ((whV v + 2147483648) / 4294967296))
  | _ => none
theorem con51 : ConOK Tryz.prog 51 c51 := ConOK.of (G := [(109, c109)]) (H := []) (.cons con109 .nil) Tryz.func51 fun l ob r hc hob => by
  unfold c51 at hc
  split at hc
  · rename_i v f
    cases hc
    have h_0 : inR v := hob _ (by simp)
    refine ⟨by kernel_rfl, fnVC_go (rs := [.tmp 2]) rfl rfl ?_⟩
    simp only [go_sem, c109]
    simp only [forall_eq]
    have h2 := whV_rg h_0
    unfold rg at h2
    rw [andI_1 (by unfold inR; omega), wrap_in (by unfold inR; omega)]
    omega
  · cases hc
def c82 : Con
  | [.v (.int .i64 a), .v (.int .i64 b), .v (.int .i64 c), .v (.int .i64 d)] => some ([inR a, inR b, inR c, inR d], i64 (cmpS (a * b) (c * d)))
  | _ => none
theorem con82 : ConOK Tryz.prog 82 c82 := ConOK.of (G := [(117, c117), (148, c148)]) (H := []) (.cons con117 (.cons con148 .nil)) Tryz.func82 fun l ob r hc hob => by
  unfold c82 at hc
  split at hc
  · rename_i a b c d
    cases hc
    have h_0 : inR a := hob _ (by simp)
    have h_1 : inR b := hob _ (by simp)
    have h_2 : inR c := hob _ (by simp)
    have h_3 : inR d := hob _ (by simp)
    refine ⟨by kernel_rfl, fnVC_go (rs := [.tmp 8]) rfl rfl ?_⟩
    simp only [go_sem, c117, c148]
    simp only [forall_eq, mod_jn]
    have k := mul_rg h_0 h_1
    have k0 := ab_nonneg (a * b)
    have j := mul_rg h_2 h_3
    have j0 := ab_nonneg (c * d)
    have i1 := inU_div (x := ab (a * b)) k0 (by omega)
    have i2 := inU_div (x := ab (c * d)) j0 (by omega)
    generalize a * b = p at *
    generalize c * d = q at *
    refine ⟨h_0, h_1, h_2, h_3, fun h => ?_, fun h => ⟨fun hs => ⟨fun hp => ?_, fun hp => ?_⟩, fun hs => ⟨inU_mod, i1, inU_mod, i2, fun hc => ?_, fun hc => ?_⟩⟩⟩
    · obtain ⟨h1, h2, h3⟩ := h
      have h1 : decide (p < 0) = decide (q < 0) := by simpa using h1
      have h2 : ab p / 18446744073709551616 = ab q / 18446744073709551616 := by simpa using h2
      have h3 : ab p % 18446744073709551616 = ab q % 18446744073709551616 := by simpa using h3
      have e : ab p = ab q := by omega
      have : p = q := by rw [← sgn_ab p, ← sgn_ab q, h1, e]
      subst this
      unfold cmpS; rw [if_neg (by omega), if_neg (by omega)]
    · have hs : decide (p < 0) ≠ decide (q < 0) := by simpa using hs
      rw [hp] at hs
      have hq : ¬ q < 0 := fun hc => hs (decide_eq_true hc).symm
      have hp : p < 0 := by simpa using hp
      unfold cmpS; rw [if_pos (by omega)]
    · have hs : decide (p < 0) ≠ decide (q < 0) := by simpa using hs
      rw [hp] at hs
      have hq : q < 0 := by
        by_cases hc : q < 0
        · exact hc
        · exact absurd (decide_eq_false hc).symm hs
      have hp : ¬ p < 0 := by simpa using hp
      unfold cmpS; rw [if_neg (by omega), if_pos (by omega)]
    all_goals (
      have hs : decide (p < 0) = decide (q < 0) := by simpa using hs
      have hn : ¬ p = q := by
        intro e
        subst e
        simp at h
      have hpq : p < 0 ↔ q < 0 := by
        have := congrArg (· = true) hs
        simpa using this)
    · have hc : decide (ab p < ab q) ≠ decide (p < 0) := by simpa using hc
      have hc : ¬ (ab p < ab q ↔ p < 0) := fun hh => hc (by rw [decide_eq_decide]; exact hh)
      have : p < q := by
        unfold ab at hc
        by_cases h1 : p < 0
        · rw [if_pos h1, if_pos (hpq.1 h1)] at hc; omega
        · rw [if_neg h1, if_neg (fun h => h1 (hpq.2 h))] at hc; omega
      unfold cmpS; rw [if_pos this]
    · have hc : decide (ab p < ab q) = decide (p < 0) := by simpa using hc
      have hc : ab p < ab q ↔ p < 0 := by rwa [decide_eq_decide] at hc
      have : q < p := by
        unfold ab at hc
        by_cases h1 : p < 0
        · rw [if_pos h1, if_pos (hpq.1 h1)] at hc; omega
        · rw [if_neg h1, if_neg (fun h => h1 (hpq.2 h))] at hc; omega
      unfold cmpS; rw [if_neg (by omega), if_pos this]
  · cases hc
end Go.Ax
end

section
/-
  The reference's ratios and roots, bit by bit.
-/
set_option linter.unusedVariables false
set_option linter.unusedSimpArgs false
set_option maxHeartbeats 4000000
set_option maxRecDepth 100000
namespace Go.Ax
open Go.Proofs
/-! ### Ratios -/
theorem andU_1 {x : Nat} (hx : x < 18446744073709551616) : andI .u64 (x : Int) 1 = ((x % 2 : Nat) : Int) := by
  unfold andI
  have e1 : (BitVec.ofInt IntKind.u64.bits 1).toNat = 1 := by decide
  rw [BitVec.toNat_and, e1, toNat_u hx, Nat.and_one_is_mod, wrap_u (by unfold inU; omega)]
theorem orI_add {x y s : Nat} (hy : y < 2 ^ s) (h : 2 ^ s * x + y < 18446744073709551616) : orI .u64 ((2 ^ s * x : Nat) : Int) (y : Int) = ((2 ^ s * x + y : Nat) : Int) := by
  unfold orI
  rw [BitVec.toNat_or, toNat_u (by omega), toNat_u (by omega), ← Nat.two_pow_add_eq_or_of_lt hy, wrap_u (by unfold inU; omega)]
theorem or2 {x y : Nat} {p q : Int} (hp : p = ((2 * x : Nat) : Int)) (hq : q = (y : Int)) (hy : y < 2) (h : 2 * x + y < 18446744073709551616) : orI .u64 p q = ((2 * x + y : Nat) : Int) := by
  rw [hp, hq]
  have := orI_add (x := x) (y := y) (s := 1) (by simpa using hy) (by simpa using h)
  simpa using this
theorem bit_high {h l : Int} {M k : Nat} (hl : inU l) (hh : inU h) (hjm : jn h l = (M : Int)) (hk : 65 ≤ k) : M / 2 ^ (k - 1) = h.toNat / 2 ^ (k - 65) := by
  have p : (2 : Nat) ^ 64 = 18446744073709551616 := by decide
  have e : 2 ^ (k - 1) = 2 ^ 64 * 2 ^ (k - 65) := by rw [← Nat.pow_add]; congr 1; omega
  rw [e, ← Nat.div_div_eq_div_mul, p]
  congr 1
  unfold jn at hjm; unfold inU at hl hh
  omega
theorem bit_low {h l : Int} {M k : Nat} (hl : inU l) (hh : inU h) (hjm : jn h l = (M : Int)) (hk0 : 0 < k) (hk : k < 65) : M / 2 ^ (k - 1) % 2 = l.toNat / 2 ^ (k - 1) % 2 := by
  have p : (2 : Nat) ^ 64 = 18446744073709551616 := by decide
  have e : (18446744073709551616 : Nat) = 2 ^ (k - 1) * (2 * 2 ^ (64 - k)) := by
    rw [← p, Nat.mul_left_comm, ← Nat.pow_add, ← Nat.pow_succ']; congr 1; omega
  have e2 : M = l.toNat + 2 ^ (k - 1) * (2 * 2 ^ (64 - k) * h.toNat) := by
    rw [← Nat.mul_assoc, ← e]
    unfold jn at hjm; unfold inU at hl hh
    omega
  rw [e2, Nat.add_mul_div_left _ _ (Nat.two_pow_pos _), Nat.mul_assoc, Nat.add_mul_mod_self_left]
theorem over_step {M D k : Nat} (hk : 0 < k) (hk2 : k ≤ 128) (hD : 1 ≤ D ∧ D ≤ 9223372036854775808) (hM : M < 340282366920938463463374607431768211456) :
    ∀ (b : Int), b = ((M / 2 ^ (k - 1) % 2 : Nat) : Int) →
    ∀ (z : Int), z = IntKind.u64.wrap (((M / 2 ^ k % D : Nat) : Int) * 2) → ∀ (z4 : Int), z4 = orI IntKind.u64 z b →
    ∀ (z : Int), z = IntKind.u64.wrap (((M / 2 ^ k / D / 18446744073709551616 : Nat) : Int) * 2) →
    ∀ (z5 : Int), z5 = ((M / 2 ^ k / D % 18446744073709551616 : Nat) : Int) / 9223372036854775808 → ∀ (z6 : Int), z6 = orI IntKind.u64 z z5 →
    ∀ (z : Int), z = IntKind.u64.wrap (((M / 2 ^ k / D % 18446744073709551616 : Nat) : Int) * 2) →
    ((D : Int) ≤ z4 → ∀ (z7 : Int), z7 = IntKind.u64.wrap (z4 - D) → ∀ (z8 : Int), z8 = orI IntKind.u64 z 1 → ∀ (z : Int), z = IntKind.i64.wrap ((k : Int) - 1 - 1) →
      ∃ y : Nat, y ≤ 128 ∧ y < k ∧ (z = (y : Int) - 1 ∧ z7 = ((M / 2 ^ y % D : Nat) : Int)) ∧ z6 = ((M / 2 ^ y / D / 18446744073709551616 : Nat) : Int) ∧ z8 = ((M / 2 ^ y / D % 18446744073709551616 : Nat) : Int)) ∧
    (¬(D : Int) ≤ z4 → ∀ (z7 : Int), z7 = IntKind.i64.wrap ((k : Int) - 1 - 1) →
      ∃ y : Nat, y ≤ 128 ∧ y < k ∧ (z7 = (y : Int) - 1 ∧ z4 = ((M / 2 ^ y % D : Nat) : Int)) ∧ z6 = ((M / 2 ^ y / D / 18446744073709551616 : Nat) : Int) ∧ z = ((M / 2 ^ y / D % 18446744073709551616 : Nat) : Int)) := by
  intro b hb z1 hz1 z4 hz4 z2 hz2 z5 hz5 z6 hz6 z3 hz3
  have hP : M / 2 ^ k = M / 2 ^ (k - 1) / 2 := by
    rw [Nat.div_div_eq_div_mul, ← Nat.pow_succ]; congr 2; omega
  obtain ⟨Q, hQ⟩ : ∃ Q, Q = M / 2 ^ (k - 1) := ⟨_, rfl⟩
  have hQM : Q ≤ M := by rw [hQ]; exact Nat.div_le_self _ _
  rw [← hQ] at hP hb
  rw [hP] at hz1 hz2 hz3 hz5
  obtain ⟨P, hPd⟩ : ∃ P, P = Q / 2 := ⟨_, rfl⟩
  rw [← hPd] at hz1 hz2 hz3 hz5
  have hqr := Nat.div_add_mod P D
  have hr := Nat.mod_lt P (show 0 < D by omega)
  have hqP : P / D ≤ P := Nat.div_le_self _ _
  have hPM : P < 170141183460469231731687303715884105728 := by omega
  clear hP
  obtain ⟨q, hq⟩ : ∃ q, q = P / D := ⟨_, rfl⟩
  obtain ⟨r, hrr⟩ : ∃ r, r = P % D := ⟨_, rfl⟩
  rw [← hrr] at hz1 hqr hr
  rw [← hq] at hz2 hz3 hz5 hqr hqP
  have hw : ∀ n : Nat, n < 18446744073709551616 → IntKind.u64.wrap (n : Int) = n := fun n hn => wrap_u (by unfold inU; omega)
  have e1 : z1 = ((2 * r : Nat) : Int) := by rw [hz1, show (r : Int) * 2 = ((2 * r : Nat) : Int) by omega, hw _ (by omega)]
  have e4 : z4 = ((2 * r + Q % 2 : Nat) : Int) := by rw [hz4]; exact or2 e1 hb (by omega) (by omega)
  have e2 : z2 = ((2 * (q / 18446744073709551616) : Nat) : Int) := by
    rw [hz2, show ((q / 18446744073709551616 : Nat) : Int) * 2 = ((2 * (q / 18446744073709551616) : Nat) : Int) by omega, hw _ (by omega)]
  have e5 : z5 = ((q % 18446744073709551616 / 9223372036854775808 : Nat) : Int) := by rw [hz5]; rfl
  have e6 : z6 = ((2 * q / 18446744073709551616 : Nat) : Int) := by
    rw [hz6, or2 e2 e5 (by omega) (by omega)]
    omega
  have e3 : z3 = ((2 * (q % 9223372036854775808) : Nat) : Int) := by
    rw [hz3, wrap_u64]; omega
  have hQe : Q = D * (2 * q) + (2 * r + Q % 2) := by
    have : D * (2 * q) = 2 * (D * q) := Nat.mul_left_comm _ _ _
    omega
  have hki : IntKind.i64.wrap ((k : Int) - 1 - 1) = ((k - 1 : Nat) : Int) - 1 := by rw [wrap_in (by unfold inR; omega)]; omega
  refine ⟨fun hc z7 hz7 z8 hz8 z9 hz9 => ⟨k - 1, by omega, by omega, ⟨by rw [hz9, hki], ?_⟩, ?_, ?_⟩, fun hc z7 hz7 => ⟨k - 1, by omega, by omega, ⟨by rw [hz7, hki], ?_⟩, ?_, ?_⟩⟩
  all_goals rw [← hQ]
  all_goals clear hz1 hz2 hz3 hz4 hz5 hz6 hb
  · have hm : Q % D = 2 * r + Q % 2 - D := by
      have : Q = (2 * r + Q % 2 - D) + D * (2 * q + 1) := by rw [Nat.mul_add]; omega
      conv => lhs; rw [this]
      rw [Nat.add_mul_mod_self_left, Nat.mod_eq_of_lt (by omega)]
    rw [hm, hz7, e4, show ((2 * r + Q % 2 : Nat) : Int) - (D : Int) = ((2 * r + Q % 2 - D : Nat) : Int) by omega, hw _ (by omega)]
  · have hd : Q / D = 2 * q + 1 := by
      have : Q = (2 * r + Q % 2 - D) + D * (2 * q + 1) := by rw [Nat.mul_add]; omega
      conv => lhs; rw [this]
      rw [Nat.add_mul_div_left _ _ (by omega), Nat.div_eq_of_lt (by omega)]; omega
    rw [hd, e6]; omega
  · have hd : Q / D = 2 * q + 1 := by
      have : Q = (2 * r + Q % 2 - D) + D * (2 * q + 1) := by rw [Nat.mul_add]; omega
      conv => lhs; rw [this]
      rw [Nat.add_mul_div_left _ _ (by omega), Nat.div_eq_of_lt (by omega)]; omega
    rw [hd, hz8, or2 (q := 1) e3 (y := 1) rfl (by omega) (by omega)]; omega
  · have hm : Q % D = 2 * r + Q % 2 := by
      conv => lhs; rw [hQe]
      rw [Nat.mul_add_mod, Nat.mod_eq_of_lt (by omega)]
    rw [hm, e4]
  · have hd : Q / D = 2 * q := by
      conv => lhs; rw [hQe]
      rw [Nat.mul_add_div (by omega), Nat.div_eq_of_lt (by omega)]; omega
    rw [hd, e6]
  · have hd : Q / D = 2 * q := by
      conv => lhs; rw [hQe]
      rw [Nat.mul_add_div (by omega), Nat.div_eq_of_lt (by omega)]; omega
    rw [hd, e3]; omega
def c119 : Con
  | [.agg [.v (.bool g), .v (.int .u64 h), .v (.int .u64 l)], .v (.int .u64 d)] => some ([inU l, inU h, 1 ≤ d ∧ d ≤ 9223372036854775808], wd g (jn h l / d))
  | _ => none
theorem con119 : ConOK Tryz.prog 119 c119 := ConOK.of (G := []) (H := []) .nil Tryz.func119 fun l ob r hc hob => by
  unfold c119 at hc
  split at hc
  · rename_i g h l d
    cases hc
    have hl : inU l := hob _ (by simp)
    have hh : inU h := hob _ (by simp)
    have hd : 1 ≤ d ∧ d ≤ 9223372036854775808 := hob _ (by simp)
    refine ⟨by kernel_rfl, fnVC_go (rs := [.cell 4 145]) rfl rfl ?_⟩
    simp only [go_sem]
    obtain ⟨D, rfl⟩ : ∃ n : Nat, d = n := ⟨d.toNat, by omega⟩
    obtain ⟨M, hM⟩ : ∃ M : Nat, M = (jn h l).toNat := ⟨_, rfl⟩
    have hjm : jn h l = (M : Int) := by rw [hM]; unfold jn; unfold inU at hl hh; omega
    have hMK : M < 340282366920938463463374607431768211456 := by unfold jn at hjm; unfold inU at hl hh; omega
    refine loopC_go (fun (k : Nat) => k ≤ 128) (fun k => k) (fun k => [(7, i64 ((k : Int) - 1)), (6, u64 ((M / 2 ^ k % D : Nat) : Int))]) (fun k => [(5, fam1 145 3 [bo g, u64 ((M / 2 ^ k / D / 18446744073709551616 : Nat) : Int), u64 ((M / 2 ^ k / D % 18446744073709551616 : Nat) : Int)] none)]) [1, 0] [12, 13, 16, 17, 18, 19, 20, 21, 8, 22, 23, 24, 25, 26, 27, 28, 29, 30, 8, 31, 32, 33, 34, 6, 35, 36, 37, 38, 39, 40, 41, 42, 43, 44, 45, 46, 47, 48, 49, 50, 51, 52, 6, 53, 54, 55, 56, 14, 15, 7] 128 (by kernel_rfl) ?_ (Nat.le_refl _) ?_ ?_
    · intro x _; simp [goodNames, asg]
    · simp only [go_sem]
      have e : M / 340282366920938463463374607431768211456 = 0 := Nat.div_eq_of_lt hMK
      rw [e, Nat.zero_mod, Nat.zero_div]
      exact ⟨⟨by decide, rfl⟩, rfl, rfl⟩
    intro k hk
    simp only [go_sem]
    have hD : 1 ≤ D ∧ D ≤ 9223372036854775808 := by omega
    refine ⟨fun hk0 z hz => ?_, fun hk0 => ?_⟩
    · have ez : z = ((k - 1 : Nat) : Int) := by rw [hz, show (k : Int) - 1 = ((k - 1 : Nat) : Int) by omega, wrap_u (by unfold inU; omega)]
      refine ⟨by rw [ez]; omega, fun z1 hz1 z2 hz2 => ⟨fun h64 z3 hz3 z4 hz4 => ?_, fun h64 => ?_⟩⟩
      · have e3 : z4 = ((k - 65 : Nat) : Int) := by
          rw [hz4, hz3, wrap_in (by unfold inR; omega), show (k : Int) - 1 - 64 = ((k - 65 : Nat) : Int) by omega, wrap_u (by unfold inU; omega)]
        refine ⟨by rw [e3]; omega, fun z5 hz5 z6 hz6 => ?_⟩
        refine over_step (by omega) hk hD hMK z6 ?_
        rw [hz6, hz5, e3, Int.toNat_natCast, Nat.min_eq_left (by omega), bit_high hl hh hjm (by omega)]
        have hhn : h = ((h.toNat : Nat) : Int) := by unfold inU at hh; omega
        have hle : h.toNat / 2 ^ (k - 65) ≤ h.toNat := Nat.div_le_self _ _
        rw [show h.fdiv (2 ^ (k - 65)) = ((h.toNat / 2 ^ (k - 65) : Nat) : Int) by
          conv => lhs; rw [hhn]
          rw [show ((2 : Int) ^ (k - 65)) = ((2 ^ (k - 65) : Nat) : Int) by simp, Int.fdiv_eq_ediv_of_nonneg _ (Int.natCast_nonneg _)]; rfl]
        exact andU_1 (by unfold inU at hh; omega)
      · refine over_step (by omega) hk hD hMK z2 ?_
        rw [hz2, hz1, ez, Int.toNat_natCast, Nat.min_eq_left (by omega), bit_low hl hh hjm (by omega) (by omega)]
        have hhn : l = ((l.toNat : Nat) : Int) := by unfold inU at hl; omega
        have hle : l.toNat / 2 ^ (k - 1) ≤ l.toNat := Nat.div_le_self _ _
        rw [show l.fdiv (2 ^ (k - 1)) = ((l.toNat / 2 ^ (k - 1) : Nat) : Int) by
          conv => lhs; rw [hhn]
          rw [show ((2 : Int) ^ (k - 1)) = ((2 ^ (k - 1) : Nat) : Int) by simp, Int.fdiv_eq_ediv_of_nonneg _ (Int.natCast_nonneg _)]; rfl]
        exact andU_1 (by unfold inU at hl; omega)
    · have : k = 0 := by omega
      subst this
      rw [Nat.pow_zero, Nat.div_one, hjm]
      exact agg3 rfl (u64_eq (by omega)) (u64_eq (by omega))
  · cases hc
def c185 : Con
  | [.agg [.v (.bool g), .v (.int .u64 h), .v (.int .u64 l)]] => some ([inU l, inU h], wd false (isq (jn h l).toNat))
  | _ => none
theorem con185 : ConOK Tryz.prog 185 c185 := ConOK.of (G := [(186, c186), (148, c148)]) (H := []) (.cons con186 (.cons con148 .nil)) Tryz.func185 fun l ob r hc hob => by
  unfold c185 at hc
  split at hc
  · rename_i g h l
    cases hc
    have hl : inU l := hob _ (by simp)
    have hh : inU h := hob _ (by simp)
    refine ⟨by kernel_rfl, fnVC_go (rs := [.cell 2 145]) rfl rfl ?_⟩
    simp only [go_sem]
    obtain ⟨m, hm⟩ : ∃ m : Nat, m = (jn h l).toNat := ⟨_, rfl⟩
    have hjm : jn h l = (m : Int) := by rw [hm]; unfold jn; unfold inU at hl hh; omega
    have hmK : m < 340282366920938463463374607431768211456 := by unfold jn at hjm; unfold inU at hl hh; omega
    rw [← hm]
    refine loopC_go (fun (p : Nat × Nat) => p.1 ≤ 64 ∧ isqB m p.1 p.2 = isq m ∧ p.2 % 2 ^ p.1 = 0 ∧ p.2 + 2 ^ p.1 ≤ 18446744073709551616) (fun p => p.1) (fun p => [(4, i64 ((p.1 : Int) - 1)), (3, u64 p.2)]) (fun _ => []) [1, 0] [8, 9, 12, 13, 14, 15, 16, 5, 18, 19, 20, 17, 21, 22, 6, 7, 23, 24, 25, 26, 27, 28, 29, 3, 10, 11, 4] (64, 0) (by kernel_rfl) ?_ ⟨by decide, rfl, by decide, by decide⟩ ?_ ?_
    · intro x _; simp [goodNames, asg]
    · simp only [go_sem]
      decide
    intro p hp
    obtain ⟨k, r⟩ := p
    obtain ⟨hk, hr1, hr2, hr3⟩ := hp
    dsimp only at hk hr1 hr2 hr3
    simp only [go_sem, c186, c148]
    refine ⟨fun hk0 z hz => ?_, fun hk0 => ?_⟩
    · obtain ⟨j, rfl⟩ : ∃ j, k = j + 1 := ⟨k - 1, by omega⟩
      have ez : z = (j : Int) := by rw [hz, show ((j + 1 : Nat) : Int) - 1 = (j : Int) by omega, wrap_u (by unfold inU; omega)]
      refine ⟨by rw [ez]; omega, fun z1 hz1 z2 hz2 z3 hz3 z4 hz4 => ?_⟩
      have pj : 0 < 2 ^ j := Nat.two_pow_pos j
      have pk : 2 ^ (j + 1) = 2 * 2 ^ j := by rw [Nat.pow_succ, Nat.mul_comm]
      obtain ⟨x, hx⟩ : ∃ x, r = 2 ^ (j + 1) * x := ⟨r / 2 ^ (j + 1), by have := Nat.div_add_mod r (2 ^ (j + 1)); omega⟩
      have hj1 : 2 ^ j < 18446744073709551616 := by omega
      have e1 : z1 = ((2 ^ j : Nat) : Int) := by
        rw [hz1, ez, Int.toNat_natCast, Nat.min_eq_left (by omega), Int.one_mul, show ((2 : Int) ^ j) = ((2 ^ j : Nat) : Int) by simp, wrap_u ⟨Int.natCast_nonneg _, Int.ofNat_lt.2 hj1⟩]
      have e2 : z2 = ((r + 2 ^ j : Nat) : Int) := by
        rw [hz2, e1, hx]
        exact orI_add (by omega) (by rw [← hx]; omega)
      have hcU : inU z2 := by rw [e2]; exact ⟨Int.natCast_nonneg _, Int.ofNat_lt.2 (show r + 2 ^ j < 18446744073709551616 by omega)⟩
      refine ⟨hcU, hcU, fun z5 hz5 => ⟨hl, hh, ?_, ?_, fun h0 z6 hz6 => ⟨(j, r + 2 ^ j), ⟨by dsimp only; omega, ?_, ?_, ?_⟩, Nat.lt_succ_self j, ?_, e2⟩, fun h0 z6 hz6 => ⟨(j, r), ⟨by dsimp only; omega, ?_, ?_, ?_⟩, Nat.lt_succ_self j, ?_, rfl⟩⟩⟩
      all_goals (
        have hcc : z2 * z2 = (((r + 2 ^ j) * (r + 2 ^ j) : Nat) : Int) := by rw [e2, Int.natCast_mul]
        have hclt : r + 2 ^ j < 18446744073709551616 := by omega
        have hcK2 : (r + 2 ^ j) * (r + 2 ^ j) < 18446744073709551616 * 18446744073709551616 := Nat.mul_lt_mul'' hclt hclt
        have hjc : jn z3 z4 = z2 * z2 := by rw [hz3, hz4, mod_jn]
        rw [hcc] at hz3 hz4 hjc
        generalize hcd : (r + 2 ^ j) * (r + 2 ^ j) = cc at *)
      · rw [hz4]; exact inU_mod
      · rw [hz3]; unfold inU; omega
      · have : cc ≤ m := by
          rw [hz5, hjc, hjm] at h0
          have := of_decide_eq_false h0
          omega
        rw [← hr1]
        conv => rhs; unfold isqB
        rw [hcd, if_pos this]
      · show (r + 2 ^ j) % 2 ^ j = 0
        rw [hx, pk, Nat.mul_comm 2, Nat.mul_assoc, ← Nat.mul_succ, Nat.mul_mod_right]
      · show r + 2 ^ j + 2 ^ j ≤ 18446744073709551616
        omega
      · rw [hz6, wrap_in (by unfold inR; omega)]; dsimp only; omega
      · have : ¬ cc ≤ m := by
          rw [hz5, hjc, hjm] at h0
          have := of_decide_eq_true h0
          omega
        rw [← hr1]
        conv => rhs; unfold isqB
        rw [hcd, if_neg this]
      · show r % 2 ^ j = 0
        rw [hx, pk, Nat.mul_comm 2, Nat.mul_assoc, Nat.mul_mod_right]
      · show r + 2 ^ j ≤ 18446744073709551616
        omega
      · rw [hz6, wrap_in (by unfold inR; omega)]; dsimp only; omega
    · have : k = 0 := by omega
      subst this
      have e : r = isq m := hr1
      have := isq_small hmK
      rw [e]
      exact agg3 rfl (u64_eq (by omega)) (u64_eq (by omega))
  · cases hc
def c54 : Con
  | [.v (.int .i64 a), .v (.int .i64 b)] => some ([inR a, inR b], ra a b false)
  | _ => none
theorem con54 : ConOK Tryz.prog 54 c54 := ConOK.of (G := [(118, c118), (115, c115), (114, c114), (120, c120), (119, c119), (113, c113)]) (H := []) (.cons con118 (.cons con115 (.cons con114 (.cons con120 (.cons con119 (.cons con113 .nil)))))) Tryz.func54 fun l ob r hc hob => by
  unfold c54 at hc
  split at hc
  · rename_i a b
    cases hc
    have h_0 : inR a := hob _ (by simp)
    have h_1 : inR b := hob _ (by simp)
    refine ⟨by kernel_rfl, fnVC_go (rs := [.cell 4 26]) rfl rfl ?_⟩
    simp only [go_sem, c118, c115, c114, c120, c119, c113]
    simp only [forall_eq, mod_jn, Bool.or_false]
    refine ⟨fun hb => ?_, fun hb => ?_⟩
    · have hb : b = 0 := by simpa using hb
      refine agg2 (i64_eq ?_) (bo_eq ?_)
      · unfold raV; rw [if_pos hb]
      · unfold raF; rw [if_pos hb]; rfl
    · have hb : b ≠ 0 := by simpa using hb
      have ha0 := ab_nonneg a
      have hb0 := ab_nonneg b
      have ha1 : ab a ≤ 9223372036854775808 := by unfold inR at h_0; exact ab_le (by omega) (by omega)
      have hb1 : ab b ≤ 9223372036854775808 := by unfold inR at h_1; exact ab_le (by omega) (by omega)
      have hb2 : 0 < ab b := by unfold ab at hb0 ⊢; split <;> omega
      have e : (!decide (a < 0) == decide (b < 0)) = (decide (a < 0) != decide (b < 0)) := by cases decide (a < 0) <;> cases decide (b < 0) <;> rfl
      have k5 : 0 ≤ ab a * 4294967296 / ab b := Int.ediv_nonneg (by omega) hb0
      have k6 : ab a * 4294967296 / ab b ≤ ab a * 4294967296 := Int.ediv_le_self _ (by omega)
      refine ⟨h_0, inU_mod, inU_div ha0 (by omega), by omega, h_1, inU_mod, inU_div (by omega) (by omega), ⟨by omega, hb1⟩, inU_mod, inU_div k5 (by omega), ?_⟩
      rw [e, sgn_ratio hb]
      refine agg2 (i64_eq ?_) (bo_eq ?_)
      · unfold raV; rw [if_neg hb]
      · unfold raF; rw [if_neg hb, Bool.or_false]
  · cases hc
def c144 : Con
  | [.agg [.v (.int .i64 v), .v (.bool f)], .agg [.v (.int .i64 u), .v (.bool e)]] => some ([inR v, inR u], ra (whV v) (whV u) (whF v f || whF u e))
  | _ => none
theorem con144 : ConOK Tryz.prog 144 c144 := ConOK.of (G := [(109, c109), (118, c118), (54, c54)]) (H := []) (.cons con109 (.cons con118 (.cons con54 .nil))) Tryz.func144 fun l ob r hc hob => by
  unfold c144 at hc
  split at hc
  · rename_i v f u e
    cases hc
    have h_0 : inR v := hob _ (by simp)
    have h_1 : inR u := hob _ (by simp)
    refine ⟨by kernel_rfl, fnVC_go (rs := [.cell 4 26]) rfl rfl ?_⟩
    simp only [go_sem, c109, c118, c54]
    simp only [forall_eq, Bool.or_false]
    refine ⟨fun hb => ?_, fun hb => ⟨inR_wh h_0, inR_wh h_1, ?_⟩⟩
    · have hb : whV u = 0 := by simpa using hb
      refine agg2 (i64_eq ?_) (bo_eq ?_)
      · unfold raV; rw [if_pos hb]
      · unfold raF; rw [if_pos hb]; rfl
    · rw [Bool.or_assoc]
  · cases hc
def c142 : Con
  | [.agg [.v (.int .i64 v), .v (.bool f)]] => some ([inR v], .agg [i64 (sqV (whV v)), bo (sqF (whV v) (whF v f))])
  | _ => none
theorem con142 : ConOK Tryz.prog 142 c142 := ConOK.of (G := [(109, c109), (115, c115), (114, c114), (185, c185), (113, c113)]) (H := []) (.cons con109 (.cons con115 (.cons con114 (.cons con185 (.cons con113 .nil))))) Tryz.func142 fun l ob r hc hob => by
  unfold c142 at hc
  split at hc
  · rename_i v f
    cases hc
    have h_0 : inR v := hob _ (by simp)
    refine ⟨by kernel_rfl, fnVC_go (rs := [.cell 2 26]) rfl rfl ?_⟩
    simp only [go_sem, c109, c115, c114, c185, c113]
    have hr := whV_rg h_0
    simp only [forall_eq, mod_jn, sgn_f]
    refine ⟨fun h => ?_, fun h => ?_⟩
    · refine agg2 (i64_eq ?_) (bo_eq ?_)
      · unfold sqV; rw [if_pos h]
      · unfold sqF; rw [if_pos h]
    · have e : ab (whV v) = whV v := by unfold ab; rw [if_neg h]
      rw [e]
      unfold rg at hr
      have k := isq_small (m := (whV v * 4294967296).toNat) (by omega)
      refine ⟨inR_wh h_0, inU_mod, inU_div (by omega) (by omega), by omega, inU_mod, inU_div (by omega) (by omega), inU_mod, inU_div (by omega) (by omega), ?_⟩
      refine agg2 (i64_eq ?_) (bo_eq ?_)
      · unfold sqV; rw [if_neg h]
      · unfold sqF; rw [if_neg h]
  · cases hc
def c112 : Con
  | [.agg [.v (.int .i64 v), .v (.bool f)], .agg [.v (.int .i64 u), .v (.bool e)]] => some ([inR v, inR u], nu (isq (whV v * whV v + whV u * whV u).toNat) (whF v f || whF u e))
  | _ => none
theorem con112 : ConOK Tryz.prog 112 c112 := ConOK.of (G := [(109, c109), (117, c117), (183, c183), (185, c185), (113, c113)]) (H := []) (.cons con109 (.cons con117 (.cons con183 (.cons con185 (.cons con113 .nil))))) Tryz.func112 fun l ob r hc hob => by
  unfold c112 at hc
  split at hc
  · rename_i v f u e
    cases hc
    have h_0 : inR v := hob _ (by simp)
    have h_1 : inR u := hob _ (by simp)
    refine ⟨by kernel_rfl, fnVC_go (rs := [.cell 4 26]) rfl rfl ?_⟩
    simp only [go_sem, c109, c117, c183, c185, c113]
    simp only [forall_eq, mod_jn, sgn_f, ab_sq]
    have k := mul_rg (inR_wh h_0) (inR_wh h_0)
    have k0 := sq_nonneg (a := whV v)
    have j := mul_rg (inR_wh h_1) (inR_wh h_1)
    have j0 := sq_nonneg (a := whV u)
    rw [ab_sq] at k j
    have e : plM (decide (whV v * whV v < 0)) (whV v * whV v) (decide (whV u * whV u < 0)) (whV u * whV u) = whV v * whV v + whV u * whV u := by
      unfold plM; rw [if_pos (by rw [decide_eq_false (by omega), decide_eq_false (by omega)])]
    rw [e]
    have s := isq_small (m := (whV v * whV v + whV u * whV u).toNat) (by omega)
    refine ⟨inR_wh h_0, inR_wh h_0, inR_wh h_1, inR_wh h_1, inU_mod, inU_div k0 (by omega), inU_mod, inU_div j0 (by omega), by omega, inU_mod, inU_div (by omega) (by omega), inU_mod, inU_div (by omega) (by omega), ?_⟩
    trivial
  · cases hc
end Go.Ax
end

section
/-
  The reference's sums, least and greatest numbers.
-/
set_option linter.unusedVariables false
set_option linter.unusedSimpArgs false
set_option maxHeartbeats 4000000
set_option maxRecDepth 100000
namespace Go.Ax
open Go.Proofs
def c184 : Con
  | [.ro n 2 g] => some ([nums n g, n ≤ 1000], bo (wfS n g))
  | _ => none
theorem vc184 (n : Nat) (X : Nat → Int) (F : Nat → Bool) (hn : n ≤ 1000) : fnVC Tryz.prog [(109, c109)] [] Tryz.f184 [.ro n 2 fun i => [i64 (X i), bo (F i)]] (· = bo (anyB (fun i => whF (X i) (F i)) n)) := by
  refine fnVC_go (rs := [.tmp 2]) rfl rfl ?_
  simp only [go_sem]
  refine loopC_go (fun (i : Nat) => i ≤ n ∧ ∀ j, j < i → whF (X j) (F j) = false) (fun i => n - i) (fun i => [(3, i64 i)]) (fun _ => []) [] [6, 7, 8, 9, 13, 14, 15, 16, 17, 12, 18, 19, 4, 5, 20, 2, 10, 11, 3] 0 (by kernel_rfl) ?_ ⟨Nat.zero_le _, fun j h => by omega⟩ ?_ ?_
  · intro x _; simp [goodNames]
  · simp only [go_sem]
  · intro i hi
    simp only [go_sem, c109]
    refine ⟨fun h => ⟨by omega, h, fun z hz z1 hz1 => ⟨fun hx => ?_, fun hx z2 hz2 => ⟨i + 1, ⟨by omega, fun j hj => ?_⟩, by omega, ?_⟩⟩⟩, fun h => false_of' fun hc => ?_⟩
    · exact (anyB_iff.2 ⟨i, by omega, by rw [hz1] at hx; exact hx⟩).symm
    · by_cases e : j = i
      · subst e; rw [hz1] at hx; exact hx
      · exact hi.2 j (by omega)
    · rw [hz2, wrap_in (by unfold inR; omega)]; rfl
    · obtain ⟨j, h1, h2⟩ := anyB_iff.1 hc
      rw [hi.2 j (by omega)] at h2; cases h2
theorem con184 : ConOK Tryz.prog 184 c184 := ConOK.go (G := [(109, c109)]) (H := []) (.cons con109 .nil) Tryz.func184 fun l ob r hc hob => by
  unfold c184 at hc
  split at hc
  · rename_i n g
    cases hc
    have hs : nums n g := hob _ (by simp)
    refine ⟨[.ro n 2 fun i => [i64 (gx g 0 i), bo (gb g 1 i)]], fun w I vs h => Rs_one (fun v => ro_alike fun i hi => (hs i hi).1) h, by kernel_rfl, vc184 n _ _ (hob _ (by simp))⟩
  · cases hc
/-- What is summed up. -/
def smR (X : Nat → Int) : Nat → Bool × Int
  | 0 => (false, 0)
  | i + 1 => (rpG (smR X i).1 (smR X i).2 (decide (X i < 0)) (ab (X i)), plM (smR X i).1 (smR X i).2 (decide (X i < 0)) (ab (X i)))
theorem smR_ok {X : Nat → Int} : ∀ i, sgn (smR X i).1 (smR X i).2 = suS X i ∧ 0 ≤ (smR X i).2
  | 0 => ⟨rfl, Int.le_refl 0⟩
  | i + 1 => by
    obtain ⟨h1, h2⟩ := smR_ok (X := X) i
    unfold smR suS
    exact ⟨by rw [rp_sgn, h1, sgn_ab], plM_nonneg h2 (ab_nonneg _)⟩
theorem smR_le {X : Nat → Int} {n : Nat} (h : ∀ i, i < n → rg (X i)) : ∀ i, i ≤ n → (smR X i).2 ≤ 9223372036854775807 * i
  | 0, _ => by simp [smR]
  | i + 1, hi => by
    have h0 := smR_le h i (by omega)
    have h1 := h i (by omega)
    unfold rg at h1
    have h2 : ab (X i) ≤ 9223372036854775807 := ab_le (by omega) (by omega)
    have h3 := plM_le (g := (smR X i).1) (g' := decide (X i < 0)) (smR_ok (X := X) i).2 (ab_nonneg (X i))
    unfold smR
    dsimp only
    omega
def c110 : Con
  | [.ro n 2 g] => some ([nums n g, n ≤ 1000], nu (suS (wvS g) n) (wfS n g))
  | _ => none
/-- Numbers, cell by cell. -/
def nug (g : Nat → List AV) : Nat → List AV := fun i => [i64 (gx g 0 i), bo (gb g 1 i)]
theorem nums_nug {n : Nat} {g : Nat → List AV} (h : nums n g) : nums n (nug g) := fun i hi => ⟨rfl, (h i hi).2⟩
theorem wvS_nug {g : Nat → List AV} : wvS (nug g) = wvS g := rfl
theorem wfS_nug {n : Nat} {g : Nat → List AV} : wfS n (nug g) = wfS n g := rfl
theorem vc110 (n : Nat) (X : Nat → Int) (F : Nat → Bool) (hX : ∀ i, i < n → inR (X i)) (hn : n ≤ 1000) : fnVC Tryz.prog [(109, c109), (115, c115), (183, c183), (184, c184), (113, c113)] [(6, ⟨[(4, .slot 3)], []⟩), (7, ⟨[(4, .slot 2)], []⟩)] Tryz.f110 [.ro n 2 fun i => [i64 (X i), bo (F i)]] (· = nu (suS (fun i => whV (X i)) n) (anyB (fun i => whF (X i) (F i)) n)) := by
  refine fnVC_go (rs := [.cell 2 26]) rfl rfl ?_
  simp only [go_sem]
  have hr : ∀ i, i < n → rg (whV (X i)) := fun i hi => whV_rg (hX i hi)
  refine loopC_go (fun (i : Nat) => i ≤ n) (fun i => n - i) (fun i => [(4, i64 i)]) (fun i => [(2, fam1 145 3 [bo (smR (fun i => whV (X i)) i).1, u64 ((smR (fun i => whV (X i)) i).2 / 18446744073709551616), u64 ((smR (fun i => whV (X i)) i).2 % 18446744073709551616)] none)]) [0] [8, 9, 10, 11, 15, 16, 17, 18, 19, 14, 20, 21, 5, 6, 22, 23, 24, 25, 12, 13, 4] 0 (by kernel_rfl) ?_ (Nat.zero_le _) ?_ ?_
  · intro x _; simp [goodNames, asg]
  · simp only [go_sem, smR]
    simp
  · intro i hi
    simp only [go_sem, c109, c115, c183, c184, c113]
    have h1 := smR_ok (X := fun i => whV (X i)) i
    have h2 := smR_le (X := fun i => whV (X i)) hr i hi
    refine ⟨fun hin => ?_, fun hin => ?_⟩
    · have h3 := hr i (by omega)
      have h4 := ab_nonneg (whV (X i))
      have h5 : ab (whV (X i)) ≤ 9223372036854775807 := by unfold rg at h3; exact ab_le (by omega) (by omega)
      simp only [forall_eq, mod_jn]
      refine ⟨by omega, hin, rg_inR h3, inU_mod, inU_div h1.2 (by omega), inU_mod, inU_div h4 (by omega), by omega, ⟨i + 1, by omega, by omega, ?_, rfl, rfl, rfl⟩⟩
      rw [wrap_in (by unfold inR; omega)]; rfl
    · have e : i = n := by omega
      subst e
      simp only [forall_eq, mod_jn]
      refine ⟨fun k hk => ⟨rfl, hX k hk⟩, hn, inU_mod, inU_div h1.2 (by omega), ?_⟩
      rw [h1.1]
      rfl
theorem con110 : ConOK Tryz.prog 110 c110 := ConOK.go (G := [(109, c109), (115, c115), (183, c183), (184, c184), (113, c113)]) (H := [(6, ⟨[(4, .slot 3)], []⟩), (7, ⟨[(4, .slot 2)], []⟩)]) (.cons con109 (.cons con115 (.cons con183 (.cons con184 (.cons con113 .nil))))) Tryz.func110 fun l ob r hc hob => by
  unfold c110 at hc
  split at hc
  · rename_i n g
    cases hc
    have hs : nums n g := hob _ (by simp)
    exact ⟨[.ro n 2 fun i => [i64 (gx g 0 i), bo (gb g 1 i)]], fun w I vs h => Rs_one (fun v => ro_alike fun i hi => (hs i hi).1) h, by kernel_rfl, vc110 n _ _ (fun i hi => (hs i hi).2) (hob _ (by simp))⟩
  · cases hc
def c163 : Con
  | [.ro n 2 g] => some ([nums n g, n ≤ 1000], moS 1 n g)
  | _ => none
theorem vc163 (n : Nat) (X : Nat → Int) (F : Nat → Bool) (hX : ∀ i, i < n → inR (X i)) (hn : n ≤ 1000) : fnVC Tryz.prog [(109, c109), (184, c184)] [] Tryz.f163 [.ro n 2 fun i => [i64 (X i), bo (F i)]] (· = .agg [i64 (if n = 0 then 0 else msS 1 (fun i => whV (X i)) n), bo (anyB (fun i => whF (X i) (F i)) n)]) := by
  refine fnVC_go (rs := [.cell 2 26]) rfl rfl ?_
  simp only [go_sem, c109]
  refine ⟨fun h => ?_, fun h => ?_⟩
  · have : n = 0 := by simpa using h
    subst this
    rfl
  have h : n ≠ 0 := by simpa using h
  refine ⟨by omega, fun z hz z1 hz1 => ?_⟩
  refine loopC_go (fun (i : Nat) => i + 1 ≤ n) (fun i => n - i) (fun i => [(5, i64 ((i + 1 : Nat) : Int)), (3, i64 (exS 1 (whV (X 0)) (fun i => whV (X (i + 1))) i))]) (fun _ => []) [0] [19, 20, 21, 22, 26, 27, 28, 29, 30, 25, 31, 32, 6, 7, 33, 34, 35, 36, 3, 23, 24, 5] 0 (by kernel_rfl) ?_ (by omega) ?_ ?_
  · intro x _; simp [goodNames, asg]
  · simp only [go_sem, exS]
    exact hz
  · intro i hi
    simp only [go_sem, c109, c184]
    have hw : IntKind.i64.wrap (((i + 1 : Nat) : Int) + 1) = ((i + 1 + 1 : Nat) : Int) := by rw [wrap_in (by unfold inR; omega)]; rfl
    refine ⟨fun hin => ⟨by omega, hin, fun z2 hz2 z3 hz3 => ⟨fun h2 z4 hz4 => ⟨i + 1, by omega, by omega, by rw [hz4, hw], ?_⟩, fun h2 z4 hz4 => ⟨i + 1, by omega, by omega, by rw [hz4, hw], ?_⟩⟩⟩, fun hin z2 hz2 => ⟨fun k hk => ⟨rfl, hX k hk⟩, hn, ?_⟩⟩
    · conv => rhs; unfold exS
      rw [hz2] at h2
      rw [if_pos (.inl ⟨rfl, h2⟩), hz2]
    · conv => rhs; unfold exS
      rw [hz2] at h2
      rw [if_neg ?_]
      rintro (⟨_, k⟩ | ⟨k, _⟩)
      · exact h2 k
      · exact absurd k (by decide)
    · have e : i = n - 1 := by omega
      refine agg2 (i64_eq ?_) (bo_eq hz2)
      rw [if_neg h, e]
      rfl
theorem con163 : ConOK Tryz.prog 163 c163 := ConOK.go (G := [(109, c109), (184, c184)]) (H := []) (.cons con109 (.cons con184 .nil)) Tryz.func163 fun l ob r hc hob => by
  unfold c163 at hc
  split at hc
  · rename_i n g
    cases hc
    have hs : nums n g := hob _ (by simp)
    exact ⟨[.ro n 2 fun i => [i64 (gx g 0 i), bo (gb g 1 i)]], fun w I vs h => Rs_one (fun v => ro_alike fun i hi => (hs i hi).1) h, by kernel_rfl, vc163 n _ _ (fun i hi => (hs i hi).2) (hob _ (by simp))⟩
  · cases hc
def c143 : Con
  | [.ro n 2 g] => some ([nums n g, n ≤ 1000], moS (-1) n g)
  | _ => none
theorem vc143 (n : Nat) (X : Nat → Int) (F : Nat → Bool) (hX : ∀ i, i < n → inR (X i)) (hn : n ≤ 1000) : fnVC Tryz.prog [(109, c109), (184, c184)] [] Tryz.f143 [.ro n 2 fun i => [i64 (X i), bo (F i)]] (· = .agg [i64 (if n = 0 then 0 else msS (-1) (fun i => whV (X i)) n), bo (anyB (fun i => whF (X i) (F i)) n)]) := by
  refine fnVC_go (rs := [.cell 2 26]) rfl rfl ?_
  simp only [go_sem, c109]
  refine ⟨fun h => ?_, fun h => ?_⟩
  · have : n = 0 := by simpa using h
    subst this
    rfl
  have h : n ≠ 0 := by simpa using h
  refine ⟨by omega, fun z hz z1 hz1 => ?_⟩
  refine loopC_go (fun (i : Nat) => i + 1 ≤ n) (fun i => n - i) (fun i => [(5, i64 ((i + 1 : Nat) : Int)), (3, i64 (exS (-1) (whV (X 0)) (fun i => whV (X (i + 1))) i))]) (fun _ => []) [0] [19, 20, 21, 22, 26, 27, 28, 29, 30, 25, 31, 32, 6, 7, 33, 34, 35, 36, 3, 23, 24, 5] 0 (by kernel_rfl) ?_ (by omega) ?_ ?_
  · intro x _; simp [goodNames, asg]
  · simp only [go_sem, exS]
    exact hz
  · intro i hi
    simp only [go_sem, c109, c184]
    have hw : IntKind.i64.wrap (((i + 1 : Nat) : Int) + 1) = ((i + 1 + 1 : Nat) : Int) := by rw [wrap_in (by unfold inR; omega)]; rfl
    refine ⟨fun hin => ⟨by omega, hin, fun z2 hz2 z3 hz3 => ⟨fun h2 z4 hz4 => ⟨i + 1, by omega, by omega, by rw [hz4, hw], ?_⟩, fun h2 z4 hz4 => ⟨i + 1, by omega, by omega, by rw [hz4, hw], ?_⟩⟩⟩, fun hin z2 hz2 => ⟨fun k hk => ⟨rfl, hX k hk⟩, hn, ?_⟩⟩
    · conv => rhs; unfold exS
      rw [hz2] at h2
      rw [if_pos (.inr ⟨rfl, h2⟩), hz2]
    · conv => rhs; unfold exS
      rw [hz2] at h2
      rw [if_neg ?_]
      rintro (⟨k, _⟩ | ⟨_, k⟩)
      · exact absurd k (by decide)
      · exact h2 k
    · have e : i = n - 1 := by omega
      refine agg2 (i64_eq ?_) (bo_eq hz2)
      rw [if_neg h, e]
      rfl
theorem con143 : ConOK Tryz.prog 143 c143 := ConOK.go (G := [(109, c109), (184, c184)]) (H := []) (.cons con109 (.cons con184 .nil)) Tryz.func143 fun l ob r hc hob => by
  unfold c143 at hc
  split at hc
  · rename_i n g
    cases hc
    have hs : nums n g := hob _ (by simp)
    exact ⟨[.ro n 2 fun i => [i64 (gx g 0 i), bo (gb g 1 i)]], fun w I vs h => Rs_one (fun v => ro_alike fun i hi => (hs i hi).1) h, by kernel_rfl, vc143 n _ _ (fun i hi => (hs i hi).2) (hob _ (by simp))⟩
  · cases hc
def c208 : Con
  | [.agg [.v (.int .i64 v), .v (.bool f)], .agg [.v (.int .i64 u), .v (.bool e)]] => some ([inR v, inR u], nu (whV v + whV u) (whF v f || whF u e))
  | _ => none
theorem con208 : ConOK Tryz.prog 208 c208 := ConOK.of (G := [(110, c110)]) (H := []) (.cons con110 .nil) Tryz.func208 fun l ob r hc hob => by
  unfold c208 at hc
  split at hc
  · rename_i v f u e
    cases hc
    have h_0 : inR v := hob _ (by simp)
    have h_1 : inR u := hob _ (by simp)
    refine ⟨by kernel_rfl, fnVC_go (rs := [.cell 4 26]) rfl rfl ?_⟩
    simp only [go_sem, c110]
    simp only [forall_eq]
    obtain ⟨e1, e2⟩ := sum2 (g := rowsOf 2 [i64 v, bo f, i64 u, bo e]) rfl rfl
    refine ⟨nums2 rfl rfl h_0 h_1, ?_⟩
    rw [e1, e2]
  · cases hc
def c46 : Con
  | [.agg [.v (.int .i64 v), .v (.bool f)], .agg [.v (.int .i64 u), .v (.bool e)]] => some ([inR v, inR u], nu (whV v - whV u) (whF v f || whF u e))
  | _ => none
theorem con46 : ConOK Tryz.prog 46 c46 := ConOK.of (G := [(111, c111), (110, c110)]) (H := [(1, ⟨[(5, .slot 4)], []⟩)]) (.cons con111 (.cons con110 .nil)) Tryz.func46 fun l ob r hc hob => by
  unfold c46 at hc
  split at hc
  · rename_i v f u e
    cases hc
    have h_0 : inR v := hob _ (by simp)
    have h_1 : inR u := hob _ (by simp)
    refine ⟨by kernel_rfl, fnVC_go (rs := [.cell 4 26]) rfl rfl ?_⟩
    simp only [go_sem, c111, c110]
    simp only [forall_eq]
    have k := whV_rg h_1
    have k2 : rg (-whV u) := by unfold rg at *; omega
    refine ⟨h_1, nums2 rfl rfl h_0 (rg_inR k2), ?_⟩
    obtain ⟨e1, e2⟩ := sum2 (g := rowsOf 2 [i64 v, bo f, i64 (-whV u), bo (whF u e)]) rfl rfl
    rw [e1, e2, whV_of k2, whF_of k2]
    rfl
  · cases hc
def c146 : Con
  | [.agg [.v (.int .i64 x), .v (.bool f)], .agg [.v (.int .i64 l), .v (.bool p)], .agg [.v (.int .i64 h), .v (.bool q)]] => some ([inR x, inR l, inR h], .agg [i64 (max (whV l) (min (whV x) (whV h))), bo (whF l p || (whF x f || whF h q))])
  | _ => none
theorem con146 : ConOK Tryz.prog 146 c146 := ConOK.of (G := [(163, c163), (143, c143)]) (H := [(1, ⟨[(7, .slot 6)], []⟩)]) (.cons con163 (.cons con143 .nil)) Tryz.func146 fun l ob r hc hob => by
  unfold c146 at hc
  split at hc
  · rename_i x f l p h q
    cases hc
    have h_0 : inR x := hob _ (by simp)
    have h_1 : inR l := hob _ (by simp)
    have h_2 : inR h := hob _ (by simp)
    refine ⟨by kernel_rfl, fnVC_go (rs := [.cell 6 26]) rfl rfl ?_⟩
    simp only [go_sem, c163, c143]
    intro z hz z1 hz1
    refine ⟨nums2 rfl rfl h_0 h_2, fun z2 hz2 z3 hz3 => ?_⟩
    rw [mo2 rfl rfl] at hz
    rw [(sum2 (a := x) (b := h) (e := f) (f := q) rfl rfl).2] at hz1
    have kx := whV_rg h_0
    have kl := whV_rg h_1
    have kh := whV_rg h_2
    have kz : rg z := by rw [hz]; split <;> assumption
    refine ⟨nums2 rfl rfl h_1 (rg_inR kz), ?_⟩
    rw [mo2 rfl rfl, whV_of kz] at hz2
    rw [(sum2 (a := l) (b := z) (e := p) (f := z1) rfl rfl).2, whF_of kz] at hz3
    refine agg2 (i64_eq ?_) (bo_eq (by rw [hz3, hz1]))
    rw [hz2, hz]
    simp only [Int.reduceNeg]
    have e1 : ((1 : Int) = -1) = False := by decide
    have e2 : ((-1 : Int) = 1) = False := by decide
    simp only [e1, e2, eq_self, true_and, false_and, or_false, false_or, Int.max_def, Int.min_def]
    repeat' split
    all_goals omega
  · cases hc
def c207 : Con
  | [.v (.int .i64 v)] => some ([], .agg [i64 (whV v), bo (whF v false)])
  | _ => none
theorem con207 : ConOK Tryz.prog 207 c207 := ConOK.of (G := [(109, c109)]) (H := []) (.cons con109 .nil) Tryz.func207 fun l ob r hc hob => by
  unfold c207 at hc
  split at hc
  · rename_i v
    cases hc
    refine ⟨by kernel_rfl, fnVC_go (rs := [.cell 2 26]) rfl rfl ?_⟩
    simp only [go_sem, c109]
    simp only [forall_eq]
  · cases hc
/-- The angle between -Half and Half. -/
def wpV (v : Int) : Int := if 13493037704 < v.tmod 26986075409 then v.tmod 26986075409 - 26986075409 else if v.tmod 26986075409 < -13493037704 then v.tmod 26986075409 + 26986075409 else v.tmod 26986075409
def c209 : Con
  | [.agg [.v (.int .i64 v), .v (.bool f)]] => some ([inR v], .agg [i64 (wpV (whV v)), bo (whF v f)])
  | _ => none
theorem con209 : ConOK Tryz.prog 209 c209 := ConOK.of (G := [(109, c109)]) (H := []) (.cons con109 .nil) Tryz.func209 fun l ob r hc hob => by
  unfold c209 at hc
  split at hc
  · rename_i v f
    cases hc
    have h_0 : inR v := hob _ (by simp)
    refine ⟨by kernel_rfl, fnVC_go (rs := [.cell 2 26]) rfl rfl ?_⟩
    simp only [go_sem, c109]
    simp only [forall_eq]
    have h1 := Int.tmod_lt_of_pos (whV v) (show (0 : Int) < 26986075409 by decide)
    have h2 : -26986075409 < (whV v).tmod 26986075409 := by
      have := Int.neg_emod_two
      rcases Int.le_total 0 (whV v) with h | h
      · have := Int.tmod_nonneg 26986075409 h; omega
      · have e : (whV v).tmod 26986075409 = -((-whV v).tmod 26986075409) := by rw [Int.neg_tmod, Int.neg_neg]
        have := Int.tmod_lt_of_pos (-whV v) (show (0 : Int) < 26986075409 by decide)
        omega
    unfold wpV
    generalize (whV v).tmod 26986075409 = t at *
    rw [wrap_in (x := t - 26986075409) (by unfold inR; omega), wrap_in (x := t + 26986075409) (by unfold inR; omega), wrap_in (x := t - 26986075409 + 26986075409) (by unfold inR; omega)]
    refine ⟨fun h => ⟨fun h3 => agg2 (i64_eq (by rw [if_pos h]; omega)) rfl, fun h3 => agg2 (i64_eq (by rw [if_pos h])) rfl⟩, fun h => ⟨fun h3 => agg2 (i64_eq (by rw [if_neg h, if_pos h3])) rfl, fun h3 => agg2 (i64_eq (by rw [if_neg h, if_neg h3])) rfl⟩⟩
  · cases hc

/-! ### Sines -/
abbrev Nb := Int × Bool
def nMul (a b : Nb) : Nb := (ftV ((whV a.1 * whV b.1).tdiv 4294967296), ftF ((whV a.1 * whV b.1).tdiv 4294967296) || (whF a.1 a.2 || whF b.1 b.2))
def nInt (n : Int) : Nb := (ftV (n * 4294967296), ftF (n * 4294967296) || false)
def nDiv (a b : Nb) : Nb := (raV (whV a.1) (whV b.1), raF (whV a.1) (whV b.1) || (whF a.1 a.2 || whF b.1 b.2))
def nNeg (a : Nb) : Nb := (-whV a.1, whF a.1 a.2)
def nAdd (a b : Nb) : Nb := (ftV (whV a.1 + whV b.1), ftF (whV a.1 + whV b.1) || (whF a.1 a.2 || whF b.1 b.2))
def snT (y : Nb) : Nat → Nb
  | 0 => y
  | k + 1 => nNeg (nDiv (nMul (nMul (snT y k) y) y) (nInt (2 * ((k : Int) + 1) * (2 * ((k : Int) + 1) + 1))))
def snS (y : Nb) : Nat → Nb
  | 0 => y
  | k + 1 => nAdd (snS y k) (snT y (k + 1))
theorem nMul_rg {a b : Nb} : rg (nMul a b).1 := ftV_rg _
theorem nInt_rg {n : Int} : rg (nInt n).1 := ftV_rg _
theorem nDiv_rg {a b : Nb} : rg (nDiv a b).1 := raV_rg
theorem nNeg_rg {a : Nb} (h : inR a.1) : rg (nNeg a).1 := by have := whV_rg h; unfold nNeg rg at *; dsimp only; omega
theorem nAdd_rg {a b : Nb} : rg (nAdd a b).1 := ftV_rg _
theorem snT_in {y : Nb} (h : inR y.1) : ∀ k, inR (snT y k).1
  | 0 => h
  | k + 1 => rg_inR (nNeg_rg (rg_inR nDiv_rg))
theorem snS_in {y : Nb} (h : inR y.1) : ∀ k, inR (snS y k).1
  | 0 => h
  | k + 1 => rg_inR nAdd_rg
/-- Turned into the first quarters. -/
def qtV (y : Int) : Int := if (if 6746518852 < y then 13493037704 - y else y) < -6746518852 then -13493037704 - (if 6746518852 < y then 13493037704 - y else y) else (if 6746518852 < y then 13493037704 - y else y)
theorem wpV_le {v : Int} : -13493037704 ≤ wpV v ∧ wpV v ≤ 13493037704 := by
  have h1 := Int.tmod_lt_of_pos v (show (0 : Int) < 26986075409 by decide)
  have h2 : -26986075409 < v.tmod 26986075409 := by
    rcases Int.le_total 0 v with h | h
    · have := Int.tmod_nonneg 26986075409 h; omega
    · have e : v.tmod 26986075409 = -((-v).tmod 26986075409) := by rw [Int.neg_tmod, Int.neg_neg]
      have := Int.tmod_lt_of_pos (-v) (show (0 : Int) < 26986075409 by decide)
      omega
  unfold wpV
  split
  · omega
  · split <;> omega
def snY (v : Int) (f : Bool) : Nb := (qtV (wpV (whV v)), whF v f)
def snV (v : Int) (f : Bool) : Int := max (-4294967296) (min (whV (snS (snY v f) 8).1) 4294967296)
def snF (v : Int) (f : Bool) : Bool := whF (snS (snY v f) 8).1 (snS (snY v f) 8).2
def c151 : Con
  | [.agg [.v (.int .i64 v), .v (.bool f)]] => some ([inR v], .agg [i64 (snV v f), bo (snF v f)])
  | _ => none
theorem con151 : ConOK Tryz.prog 151 c151 := ConOK.of (G := [(209, c209), (52, c52), (50, c50), (144, c144), (111, c111), (208, c208), (146, c146)]) (H := [(6, ⟨[(4, .made 2), (5, .made 3)], [(1, [.made 2])]⟩), (10, ⟨[(14, .slot 4)], []⟩)]) (.cons con209 (.cons con52 (.cons con50 (.cons con144 (.cons con111 (.cons con208 (.cons con146 .nil))))))) Tryz.func151 fun l ob r hc hob => by
  unfold c151 at hc
  split at hc
  · rename_i v f
    cases hc
    have h_0 : inR v := hob _ (by simp)
    refine ⟨by kernel_rfl, fnVC_go (rs := [.cell 2 26]) rfl rfl ?_⟩
    simp only [go_sem, c209]
    intro z hz z1 hz1
    have hw := wpV_le (v := whV v)
    rw [← hz] at hw
    obtain ⟨y, hy⟩ : ∃ y : Nb, y = snY v f := ⟨_, rfl⟩
    have y2 : z1 = y.2 := by rw [hy]; exact hz1
    have yq : y.1 = qtV z := by rw [hy, hz]; rfl
    have yi : inR y.1 := by rw [yq]; unfold qtV inR; (repeat' split) <;> omega
    have ev : snV v f = max (-4294967296) (min (whV (snS y 8).1) 4294967296) := by rw [hy]; rfl
    have ef : snF v f = whF (snS y 8).1 (snS y 8).2 := by rw [hy]; rfl
    rw [ev, ef]
    clear ev ef hy hz hz1
    refine ⟨h_0, fun h z2 hz2 => ⟨fun h2 => ?_, fun h2 => ?_⟩, fun h => ⟨fun h2 z3 hz3 => ?_, fun h2 => ?_⟩⟩
    · exfalso
      rw [hz2, wrap_in (by unfold inR; omega)] at h2; omega
    · have e : z2 = y.1 := by rw [hz2, wrap_in (by unfold inR; omega), yq]; unfold qtV; rw [if_pos h, if_neg (by omega)]
      subst e
      subst y2
      refine loopC_go (fun (k : Nat) => k ≤ 8) (fun k => 8 - k) (fun k => [(6, i64 ((k : Int) + 1))]) (fun k => [(20, fam1 26 2 [i64 (snS y k).1, bo (snS y k).2] none), (19, fam1 26 2 [i64 (snT y k).1, bo (snT y k).2] none)]) [4, 1, 0] [25, 26, 29, 30, 31, 32, 33, 34, 35, 36, 37, 38, 39, 40, 41, 42, 43, 44, 45, 27, 28, 6] 0 (by kernel_rfl) ?_ (Nat.zero_le _) ?_ ?_
      · intro x _; simp [goodNames, asg]
      · simp only [go_sem, snT, snS]
      intro k hk
      simp only [go_sem, c52, c50, c144, c111, c208, c146]
      refine ⟨fun hk8 => ?_, fun hk8 => ?_⟩
      · have n1 : 0 ≤ 2 * ((k : Int) + 1) * (2 * ((k : Int) + 1) + 1) := Int.mul_nonneg (by omega) (by omega)
        have n2 : 2 * ((k : Int) + 1) * (2 * ((k : Int) + 1) + 1) ≤ 16 * 17 := Int.mul_le_mul (by omega) (by omega) (by omega) (by omega)
        have w1 : IntKind.i64.wrap (2 * ((k : Int) + 1)) = 2 * ((k : Int) + 1) := wrap_in (by unfold inR; omega)
        have w2 : IntKind.i64.wrap (2 * ((k : Int) + 1) + 1) = 2 * ((k : Int) + 1) + 1 := wrap_in (by unfold inR; omega)
        have w3 : IntKind.i64.wrap (2 * ((k : Int) + 1) * (2 * ((k : Int) + 1) + 1)) = 2 * ((k : Int) + 1) * (2 * ((k : Int) + 1) + 1) := wrap_in (by unfold inR; omega)
        have w4 : IntKind.i64.wrap ((k : Int) + 1 + 1) = ((k + 1 : Nat) : Int) + 1 := by rw [wrap_in (by unfold inR; omega)]; rfl
        simp only [forall_eq, w1, w2, w3, w4]
        exact ⟨snT_in yi k, yi, rg_inR (ftV_rg _), yi, by unfold inR; omega, rg_inR (ftV_rg _), rg_inR (ftV_rg _), rg_inR raV_rg, snS_in yi k, rg_inR (nNeg_rg (a := nDiv (nMul (nMul (snT y k) y) y) (nInt (2 * ((k : Int) + 1) * (2 * ((k : Int) + 1) + 1)))) (rg_inR nDiv_rg)), k + 1, by omega, by omega, rfl, ⟨rfl, rfl⟩, rfl, rfl⟩
      · have e8 : k = 8 := by omega
        subst e8
        have c1 : whV (-4294967296) = -4294967296 := by decide
        have c2 : whV 4294967296 = 4294967296 := by decide
        have c3 : whF (-4294967296) false = false := by decide
        have c4 : whF 4294967296 false = false := by decide
        simp only [forall_eq, c1, c2, c3, c4, Bool.false_or, Bool.or_false]
        exact ⟨snS_in yi 8, by unfold inR; omega, by unfold inR; omega, trivial⟩
    · have e : z3 = y.1 := by rw [hz3, wrap_in (by unfold inR; omega), yq]; unfold qtV; rw [if_neg h, if_pos h2]
      subst e
      subst y2
      refine loopC_go (fun (k : Nat) => k ≤ 8) (fun k => 8 - k) (fun k => [(6, i64 ((k : Int) + 1))]) (fun k => [(20, fam1 26 2 [i64 (snS y k).1, bo (snS y k).2] none), (19, fam1 26 2 [i64 (snT y k).1, bo (snT y k).2] none)]) [4, 1, 0] [25, 26, 29, 30, 31, 32, 33, 34, 35, 36, 37, 38, 39, 40, 41, 42, 43, 44, 45, 27, 28, 6] 0 (by kernel_rfl) ?_ (Nat.zero_le _) ?_ ?_
      · intro x _; simp [goodNames, asg]
      · simp only [go_sem, snT, snS]
      intro k hk
      simp only [go_sem, c52, c50, c144, c111, c208, c146]
      refine ⟨fun hk8 => ?_, fun hk8 => ?_⟩
      · have n1 : 0 ≤ 2 * ((k : Int) + 1) * (2 * ((k : Int) + 1) + 1) := Int.mul_nonneg (by omega) (by omega)
        have n2 : 2 * ((k : Int) + 1) * (2 * ((k : Int) + 1) + 1) ≤ 16 * 17 := Int.mul_le_mul (by omega) (by omega) (by omega) (by omega)
        have w1 : IntKind.i64.wrap (2 * ((k : Int) + 1)) = 2 * ((k : Int) + 1) := wrap_in (by unfold inR; omega)
        have w2 : IntKind.i64.wrap (2 * ((k : Int) + 1) + 1) = 2 * ((k : Int) + 1) + 1 := wrap_in (by unfold inR; omega)
        have w3 : IntKind.i64.wrap (2 * ((k : Int) + 1) * (2 * ((k : Int) + 1) + 1)) = 2 * ((k : Int) + 1) * (2 * ((k : Int) + 1) + 1) := wrap_in (by unfold inR; omega)
        have w4 : IntKind.i64.wrap ((k : Int) + 1 + 1) = ((k + 1 : Nat) : Int) + 1 := by rw [wrap_in (by unfold inR; omega)]; rfl
        simp only [forall_eq, w1, w2, w3, w4]
        exact ⟨snT_in yi k, yi, rg_inR (ftV_rg _), yi, by unfold inR; omega, rg_inR (ftV_rg _), rg_inR (ftV_rg _), rg_inR raV_rg, snS_in yi k, rg_inR (nNeg_rg (a := nDiv (nMul (nMul (snT y k) y) y) (nInt (2 * ((k : Int) + 1) * (2 * ((k : Int) + 1) + 1)))) (rg_inR nDiv_rg)), k + 1, by omega, by omega, rfl, ⟨rfl, rfl⟩, rfl, rfl⟩
      · have e8 : k = 8 := by omega
        subst e8
        have c1 : whV (-4294967296) = -4294967296 := by decide
        have c2 : whV 4294967296 = 4294967296 := by decide
        have c3 : whF (-4294967296) false = false := by decide
        have c4 : whF 4294967296 false = false := by decide
        simp only [forall_eq, c1, c2, c3, c4, Bool.false_or, Bool.or_false]
        exact ⟨snS_in yi 8, by unfold inR; omega, by unfold inR; omega, trivial⟩
    · have e : z = y.1 := by rw [yq]; unfold qtV; rw [if_neg h, if_neg h2]
      subst e
      subst y2
      refine loopC_go (fun (k : Nat) => k ≤ 8) (fun k => 8 - k) (fun k => [(6, i64 ((k : Int) + 1))]) (fun k => [(15, fam1 26 2 [i64 (snS y k).1, bo (snS y k).2] none), (14, fam1 26 2 [i64 (snT y k).1, bo (snT y k).2] none)]) [4, 1, 0] [25, 26, 29, 30, 31, 32, 33, 34, 35, 36, 37, 38, 39, 40, 41, 42, 43, 44, 45, 27, 28, 6] 0 (by kernel_rfl) ?_ (Nat.zero_le _) ?_ ?_
      · intro x _; simp [goodNames, asg]
      · simp only [go_sem, snT, snS]
      intro k hk
      simp only [go_sem, c52, c50, c144, c111, c208, c146]
      refine ⟨fun hk8 => ?_, fun hk8 => ?_⟩
      · have n1 : 0 ≤ 2 * ((k : Int) + 1) * (2 * ((k : Int) + 1) + 1) := Int.mul_nonneg (by omega) (by omega)
        have n2 : 2 * ((k : Int) + 1) * (2 * ((k : Int) + 1) + 1) ≤ 16 * 17 := Int.mul_le_mul (by omega) (by omega) (by omega) (by omega)
        have w1 : IntKind.i64.wrap (2 * ((k : Int) + 1)) = 2 * ((k : Int) + 1) := wrap_in (by unfold inR; omega)
        have w2 : IntKind.i64.wrap (2 * ((k : Int) + 1) + 1) = 2 * ((k : Int) + 1) + 1 := wrap_in (by unfold inR; omega)
        have w3 : IntKind.i64.wrap (2 * ((k : Int) + 1) * (2 * ((k : Int) + 1) + 1)) = 2 * ((k : Int) + 1) * (2 * ((k : Int) + 1) + 1) := wrap_in (by unfold inR; omega)
        have w4 : IntKind.i64.wrap ((k : Int) + 1 + 1) = ((k + 1 : Nat) : Int) + 1 := by rw [wrap_in (by unfold inR; omega)]; rfl
        simp only [forall_eq, w1, w2, w3, w4]
        exact ⟨snT_in yi k, yi, rg_inR (ftV_rg _), yi, by unfold inR; omega, rg_inR (ftV_rg _), rg_inR (ftV_rg _), rg_inR raV_rg, snS_in yi k, rg_inR (nNeg_rg (a := nDiv (nMul (nMul (snT y k) y) y) (nInt (2 * ((k : Int) + 1) * (2 * ((k : Int) + 1) + 1)))) (rg_inR nDiv_rg)), k + 1, by omega, by omega, rfl, ⟨rfl, rfl⟩, rfl, rfl⟩
      · have e8 : k = 8 := by omega
        subst e8
        have c1 : whV (-4294967296) = -4294967296 := by decide
        have c2 : whV 4294967296 = 4294967296 := by decide
        have c3 : whF (-4294967296) false = false := by decide
        have c4 : whF 4294967296 false = false := by decide
        simp only [forall_eq, c1, c2, c3, c4, Bool.false_or, Bool.or_false]
        exact ⟨snS_in yi 8, by unfold inR; omega, by unfold inR; omega, trivial⟩
  · cases hc
theorem snV_rg {v : Int} {f : Bool} : rg (snV v f) := by unfold snV rg; omega
def csV (v : Int) (f : Bool) : Int := snV (nAdd (wpV (whV v), whF v f) (6746518852, false)).1 (nAdd (wpV (whV v), whF v f) (6746518852, false)).2
def csF (v : Int) (f : Bool) : Bool := snF (nAdd (wpV (whV v), whF v f) (6746518852, false)).1 (nAdd (wpV (whV v), whF v f) (6746518852, false)).2
def c150 : Con
  | [.agg [.v (.int .i64 v), .v (.bool f)]] => some ([inR v], .agg [i64 (csV v f), bo (csF v f)])
  | _ => none
theorem con150 : ConOK Tryz.prog 150 c150 := ConOK.of (G := [(209, c209), (208, c208), (151, c151)]) (H := []) (.cons con209 (.cons con208 (.cons con151 .nil))) Tryz.func150 fun l ob r hc hob => by
  unfold c150 at hc
  split at hc
  · rename_i v f
    cases hc
    have h_0 : inR v := hob _ (by simp)
    refine ⟨by kernel_rfl, fnVC_go (rs := [.cell 2 26]) rfl rfl ?_⟩
    simp only [go_sem, c209, c208, c151]
    simp only [forall_eq]
    have hw := wpV_le (v := whV v)
    exact ⟨h_0, by unfold inR; omega, by unfold inR; omega, rg_inR (ftV_rg _), rfl⟩
  · cases hc
end Go.Ax
end

section
/-
  Boxes: what is valid, what meets, what is within, what grows.
-/
set_option linter.unusedVariables false
set_option linter.unusedSimpArgs false
set_option maxHeartbeats 1000000
set_option maxRecDepth 100000
namespace Go.Ax
open Go.Proofs

theorem okX_iff {x : Int} : okX x = true ↔ -2097152 ≤ x ∧ x ≤ 2097152 := by unfold okX; simp
theorem validS_iff {x y : Int} : validS x y = true ↔ -2097152 ≤ x ∧ x ≤ 2097152 ∧ -2097152 ≤ y ∧ y ≤ 2097152 := by
  unfold validS; rw [Bool.and_eq_true, okX_iff, okX_iff]; omega
theorem fairS_iff {n : Nat} {X Y : Nat → Int} : fairS n X Y = true ↔ ∀ i, i < n → validS (X i) (Y i) = true := by unfold fairS; simp
theorem bool_of {a b : Bool} (h : a = true ↔ b = true) : a = b := Bool.eq_iff_iff.2 h
theorem false_of {b : Bool} (h : ¬ b = true) : false = b := by cases b <;> simp_all
theorem bo_inj {a b : Bool} (h : a = b) : bo a = bo b := by rw [h]

def c70 : Con
  | [.ro n 2 g] => some ([spots n g, n ≤ 9223372036854775807], bo (fairS n (gx g 0) (gx g 1)))
  | _ => none
theorem vc70 (n : Nat) (X Y : Nat → Int) (hX : ∀ i, i < n → inR (X i) ∧ inR (Y i)) (hn : n ≤ 9223372036854775807) : fnVC Tryz.prog [] [] Tryz.f70 [.ro n 2 fun i => [i64 (X i), i64 (Y i)]] (· = bo (fairS n X Y)) := by
  refine fnVC_go (rs := [.tmp 2]) rfl rfl ?_
  simp only [go_sem]
  refine loopC_go (fun (i : Nat) => i ≤ n ∧ ∀ k < i, validS (X k) (Y k) = true) (fun i => n - i) (fun i => [(7, i64 i)]) (fun _ => []) [] [8, 9, 10, 4, 11, 12, 13, 14, 15, 16, 17, 18, 19, 20, 21, 22, 23, 24, 25, 26, 27, 28, 29, 30, 31, 32, 2, 33, 7] 0 (by kernel_rfl) ?_ ?_ ?_ ?_
  · intro x _; simp [goodNames]
  · simp
  · simp only [go_sem]
  · intro i hi
    simp only [go_sem]
    obtain ⟨hi1, hi2⟩ := hi
    refine ⟨fun h => ?_, fun h => (fairS_iff.2 fun k hk => hi2 k (by omega)).symm⟩
    have h1 : i < n := by omega
    have hr := hX i h1
    unfold inR at hr
    refine ⟨by omega, h, fun z hz z1 hz1 z2 hz2 => ?_⟩
    rw [wrap_i64] at hz hz1
    have hv := validS_iff (x := X i) (y := Y i)
    refine ⟨fun hb => false_of fun hf => ?_, fun hg z hz => ⟨i + 1, ⟨by omega, fun k hk => ?_⟩, by omega, ?_⟩⟩
    · have := hv.1 (fairS_iff.1 hf i h1)
      omega
    · by_cases e : k = i
      · subst e; exact hv.2 (by omega)
      · exact hi2 k (by omega)
    · rw [wrap_i64] at hz; omega
theorem con70 : ConOK Tryz.prog 70 c70 := ConOK.go (G := []) (H := []) .nil Tryz.func70 fun l ob r hc hob => by
  unfold c70 at hc
  split at hc
  · rename_i n g
    cases hc
    have hs : spots n g := hob _ (by simp)
    refine ⟨[.ro n 2 fun i => [i64 (gx g 0 i), i64 (gx g 1 i)]], fun w I vs h => Rs_one (fun v => ro_alike fun i hi => (hs i hi).1) h, by kernel_rfl, vc70 n _ _ (fun i hi => (hs i hi).2) (hob _ (by simp))⟩
  · cases hc

def c72 : Con
  | [.agg [.v (.int .i64 x), .v (.int .i64 y)]] => some ([], bo (validS x y))
  | _ => none
theorem con72 : ConOK Tryz.prog 72 c72 := ConOK.of (G := []) (H := []) .nil Tryz.func72 fun l ob r hc hob => by
  unfold c72 at hc
  split at hc
  · rename_i x y
    cases hc
    refine ⟨by kernel_rfl, fnVC_go (rs := [.tmp 2]) rfl rfl ?_⟩
    simp only [go_sem]
    unfold validS okX
    rw [Bool.eq_iff_iff]
    simp
    omega
  · cases hc

/-! ### The error of a box -/
def checkBoxS (a b c d : Int) : Int := if validS a b = true ∧ validS c d = true then (if c < a ∨ d < b then 5 else 0) else 3
def c31 : Con
  | [.agg [.v (.int .i64 a), .v (.int .i64 b), .v (.int .i64 c), .v (.int .i64 d)]] => some ([inR a, inR b, inR c, inR d], i64 (checkBoxS a b c d))
  | _ => none
theorem fair2 {a b c d : Int} {g : Nat → List AV} (h0 : g 0 = [i64 a, i64 b]) (h1 : g 1 = [i64 c, i64 d]) : fairS 2 (gx g 0) (gx g 1) = (validS a b && validS c d) := by
  rw [Bool.eq_iff_iff, fairS_iff, Bool.and_eq_true]
  constructor
  · intro h
    have k0 := h 0 (by omega)
    have k1 := h 1 (by omega)
    simp only [gx, h0, h1, gi_0, gi_1] at k0 k1
    exact ⟨k0, k1⟩
  · intro h i hi
    have : i = 0 ∨ i = 1 := by omega
    rcases this with rfl | rfl
    · simp only [gx, h0, gi_0, gi_1]; exact h.1
    · simp only [gx, h1, gi_0, gi_1]; exact h.2
theorem spots2 {a b c d : Int} {g : Nat → List AV} (h0 : g 0 = [i64 a, i64 b]) (h1 : g 1 = [i64 c, i64 d]) (ha : inR a) (hb : inR b) (hc : inR c) (hd : inR d) : spots 2 g := by
  intro i hi
  have : i = 0 ∨ i = 1 := by omega
  rcases this with rfl | rfl
  · simp only [gx, h0, gi_0, gi_1]; exact ⟨trivial, ha, hb⟩
  · simp only [gx, h1, gi_0, gi_1]; exact ⟨trivial, hc, hd⟩
theorem con31 : ConOK Tryz.prog 31 c31 := ConOK.of (G := [(70, c70)]) (H := [(1, ⟨[(12, .made 10), (13, .made 11)], [(6, [.made 10]), (8, [.made 10])]⟩)]) (.cons con70 .nil) Tryz.func31 fun l ob r hc hob => by
  unfold c31 at hc
  split at hc
  · rename_i a b c d
    cases hc
    refine ⟨by kernel_rfl, fnVC_go (rs := [.tmp 2]) rfl rfl ?_⟩
    simp only [go_sem, c70]
    have ha : inR a := hob _ (by simp)
    have hb : inR b := hob _ (by simp)
    have hc : inR c := hob _ (by simp)
    have hd : inR d := hob _ (by simp)
    intro z hz
    refine ⟨spots2 (a := a) (b := b) (c := c) (d := d) rfl rfl ha hb hc hd, ?_⟩
    rw [fair2 (a := a) (b := b) (c := c) (d := d) rfl rfl] at hz
    subst hz
    simp only [checkBoxS, Bool.and_eq_true, Bool.and_eq_false_iff]
    refine ⟨fun h => ?_, fun h => ⟨fun h2 => ?_, fun h2 => ?_⟩⟩
    · rw [if_neg (by rintro ⟨h1, h2⟩; rcases h with h | h <;> simp_all)]
    · rw [if_pos h, if_pos h2]
    · rw [if_pos h, if_neg (by omega)]
  · cases hc
def c73 : Con
  | [.agg [.v (.int .i64 a), .v (.int .i64 b), .v (.int .i64 c), .v (.int .i64 d)]] => some ([], i64 (checkBoxS a b c d))
  | _ => none
theorem con73 : ConOK Tryz.prog 73 c73 := ConOK.of (G := [(72, c72)]) (H := []) (.cons con72 .nil) Tryz.func73 fun l ob r hc hob => by
  unfold c73 at hc
  split at hc
  · rename_i a b c d
    cases hc
    refine ⟨by kernel_rfl, fnVC_go (rs := [.tmp 2]) rfl rfl ?_⟩
    simp only [go_sem, c72]
    intro z hz z1 hz1
    subst hz hz1
    unfold checkBoxS
    refine ⟨fun h => ?_, fun h => ⟨fun h2 => ?_, fun h2 => ?_⟩⟩
    · rw [if_neg (by rintro ⟨h1, h2⟩; rcases h with h | h <;> simp_all)]
    · rw [if_pos h, if_pos h2]
    · rw [if_pos h, if_neg (by omega)]
  · cases hc

/-! ### Boxes that meet -/
theorem checkBoxS_iff {a b c d : Int} : checkBoxS a b c d = 0 ↔ -2097152 ≤ a ∧ a ≤ c ∧ c ≤ 2097152 ∧ -2097152 ≤ b ∧ b ≤ d ∧ d ≤ 2097152 := by
  simp only [checkBoxS, validS_iff]
  split
  · split <;> omega
  · omega
def meetsS (a b c d x y z t : Int) : Bool := decide (checkBoxS a b c d = 0 ∧ checkBoxS x y z t = 0 ∧ a ≤ z ∧ x ≤ c ∧ b ≤ t ∧ y ≤ d)
def c87 : Con
  | [.agg [.v (.int .i64 a), .v (.int .i64 b), .v (.int .i64 c), .v (.int .i64 d)], .agg [.v (.int .i64 x), .v (.int .i64 y), .v (.int .i64 z), .v (.int .i64 t)]] => some ([inR a, inR b, inR c, inR d, inR x, inR y, inR z, inR t], bo (meetsS a b c d x y z t))
  | _ => none
theorem con87 : ConOK Tryz.prog 87 c87 := ConOK.of (G := [(31, c31)]) (H := []) (.cons con31 .nil) Tryz.func87 fun l ob r hc hob => by
  unfold c87 at hc
  split at hc
  · rename_i a b c d x y z t
    cases hc
    refine ⟨by kernel_rfl, fnVC_go (rs := [.tmp 4]) rfl rfl ?_⟩
    simp only [go_sem, c31]
    have ha : inR a := hob _ (by simp)
    have hb : inR b := hob _ (by simp)
    have hc : inR c := hob _ (by simp)
    have hd : inR d := hob _ (by simp)
    have hx : inR x := hob _ (by simp)
    have hy : inR y := hob _ (by simp)
    have hz : inR z := hob _ (by simp)
    have ht : inR t := hob _ (by simp)
    intro z1 h1
    refine ⟨ha, hb, hc, hd, fun z2 h2 => ⟨fun _ => hx, fun _ => hy, fun _ => hz, fun _ => ht, fun h => ?_, fun h z3 h3 z4 h4 z5 h5 z6 h6 => ?_⟩⟩
    · refine false_of fun hf => ?_
      simp only [meetsS, decide_eq_true_eq] at hf
      rw [← h1, ← h2] at hf
      simp only [bne_iff_ne] at h
      omega
    · rw [Bool.eq_iff_iff]
      simp only [meetsS, Bool.and_eq_true, decide_eq_true_eq, bne_eq_false_iff_eq] at h ⊢
      have k1 := checkBoxS_iff.1 (h1.symm.trans h.1)
      have k2 := checkBoxS_iff.1 (h2.symm.trans h.2)
      rw [← h1, ← h2]
      omega
  · cases hc
def c98 : Con
  | [.agg [.v (.int .i64 a), .v (.int .i64 b), .v (.int .i64 c), .v (.int .i64 d)], .agg [.v (.int .i64 x), .v (.int .i64 y), .v (.int .i64 z), .v (.int .i64 t)]] => some ([], bo (meetsS a b c d x y z t))
  | _ => none
theorem con98 : ConOK Tryz.prog 98 c98 := ConOK.of (G := [(73, c73)]) (H := []) (.cons con73 .nil) Tryz.func98 fun l ob r hc hob => by
  unfold c98 at hc
  split at hc
  · rename_i a b c d x y z t
    cases hc
    refine ⟨by kernel_rfl, fnVC_go (rs := [.tmp 4]) rfl rfl ?_⟩
    simp only [go_sem, c73]
    intro z1 h1 z2 h2
    rw [Bool.eq_iff_iff]
    simp only [meetsS, Bool.and_eq_true, decide_eq_true_eq, beq_iff_eq]
    rw [← h1, ← h2]
    omega
  · cases hc
def c71 : Con
  | [.agg [.v (.int .i64 x), .v (.int .i64 y)], .v (.int .i64 r)] => some ([], .agg [i64 (IntKind.i64.wrap (x - r)), i64 (IntKind.i64.wrap (y - r)), i64 (IntKind.i64.wrap (x + r)), i64 (IntKind.i64.wrap (y + r))])
  | _ => none
theorem con71 : ConOK Tryz.prog 71 c71 := ConOK.of (G := []) (H := []) .nil Tryz.func71 fun l ob r hc hob => by
  unfold c71 at hc
  split at hc
  · cases hc
    refine ⟨by kernel_rfl, fnVC_go (rs := [.cell 4 58]) rfl rfl ?_⟩
    simp only [go_sem]
    intro z h z1 h1 z2 h2 z3 h3
    subst h h1 h2 h3
    rfl
  · cases hc
def withinS (a b c d x y : Int) : Bool := decide (checkBoxS a b c d = 0 ∧ a ≤ x ∧ x ≤ c ∧ b ≤ y ∧ y ≤ d)
def c29 : Con
  | [.agg [.v (.int .i64 a), .v (.int .i64 b), .v (.int .i64 c), .v (.int .i64 d)], .agg [.v (.int .i64 x), .v (.int .i64 y)]] => some ([inR a, inR b, inR c, inR d, inR x, inR y], bo (withinS a b c d x y))
  | _ => none
theorem con29 : ConOK Tryz.prog 29 c29 := ConOK.of (G := [(87, c87), (71, c71)]) (H := []) (.cons con87 (.cons con71 .nil)) Tryz.func29 fun l ob r hc hob => by
  unfold c29 at hc
  split at hc
  · rename_i a b c d x y
    cases hc
    refine ⟨by kernel_rfl, fnVC_go (rs := [.tmp 4]) rfl rfl ?_⟩
    simp only [go_sem, c87, c71]
    have ha : inR a := hob _ (by simp)
    have hb : inR b := hob _ (by simp)
    have hc : inR c := hob _ (by simp)
    have hd : inR d := hob _ (by simp)
    have hx : inR x := hob _ (by simp)
    have hy : inR y := hob _ (by simp)
    intro z h z1 h1 z2 h2 z3 h3 z4 h4
    rw [Int.sub_zero, wrap_in hx] at h
    rw [Int.sub_zero, wrap_in hy] at h1
    rw [Int.add_zero, wrap_in hx] at h2
    rw [Int.add_zero, wrap_in hy] at h3
    subst h h1 h2 h3
    refine ⟨ha, hb, hc, hd, hx, hy, hx, hy, ?_⟩
    rw [h4, Bool.eq_iff_iff]
    simp only [meetsS, withinS, decide_eq_true_eq, checkBoxS_iff]
    omega
  · cases hc
def growN (n : Int) : Int := max 0 (min n 4194304)
def growS (a b c d n : Int) (k : Nat) : Int := if checkBoxS a b c d = 0 then (match k with
  | 0 => max (a - growN n) (-2097152)
  | 1 => max (b - growN n) (-2097152)
  | 2 => min (c + growN n) 2097152
  | _ => min (d + growN n) 2097152) else (match k with
  | 0 => a
  | 1 => b
  | 2 => c
  | _ => d)
def c48 : Con
  | [.agg [.v (.int .i64 a), .v (.int .i64 b), .v (.int .i64 c), .v (.int .i64 d)], .v (.int .i64 n)] => some ([inR a, inR b, inR c, inR d], .agg [i64 (growS a b c d n 0), i64 (growS a b c d n 1), i64 (growS a b c d n 2), i64 (growS a b c d n 3)])
  | _ => none
theorem agg4 {a b c d x y z t : Int} (h1 : a = x) (h2 : b = y) (h3 : c = z) (h4 : d = t) : AV.agg [i64 a, i64 b, i64 c, i64 d] = .agg [i64 x, i64 y, i64 z, i64 t] := by rw [h1, h2, h3, h4]
theorem con48 : ConOK Tryz.prog 48 c48 := ConOK.of (G := [(31, c31)]) (H := []) (.cons con31 .nil) Tryz.func48 fun l ob r hc hob => by
  unfold c48 at hc
  split at hc
  · rename_i a b c d n
    cases hc
    refine ⟨by kernel_rfl, fnVC_go (rs := [.cell 4 58]) rfl rfl ?_⟩
    simp only [go_sem, c31]
    have ha : inR a := hob _ (by simp)
    have hb : inR b := hob _ (by simp)
    have hc : inR c := hob _ (by simp)
    have hd : inR d := hob _ (by simp)
    intro z1 h1
    refine ⟨ha, hb, hc, hd, fun h => ?_, fun h z hz z2 h2 z3 h3 z4 h4 z5 h5 z6 h6 z7 h7 z8 h8 z9 h9 z10 h10 => ?_⟩
    · have h0 : ¬ checkBoxS a b c d = 0 := by rw [← h1]; simpa using h
      simp only [growS, if_neg h0]
    · have h0 : checkBoxS a b c d = 0 := by rw [← h1]; simpa using h
      have hv := checkBoxS_iff.1 h0
      have hz2 : 0 ≤ z2 ∧ z2 ≤ 4194304 := by omega
      rw [wrap_in (by unfold inR; omega)] at h3 h5 h7 h9
      simp only [growS, if_pos h0, growN]
      rw [hz] at h2
      subst h2 h3 h5 h7 h9
      rw [h4, h6, h8, h10]
  · cases hc
end Go.Ax
end

section
/-
  The box of several boxes.
-/
set_option linter.unusedVariables false
set_option linter.unusedSimpArgs false
set_option maxHeartbeats 1000000
set_option maxRecDepth 100000
namespace Go.Ax
open Go.Proofs
def boxes (n : Nat) (g : Nat → List AV) : Prop := ∀ i, i < n → g i = [i64 (gx g 0 i), i64 (gx g 1 i), i64 (gx g 2 i), i64 (gx g 3 i)] ∧ inR (gx g 0 i) ∧ inR (gx g 1 i) ∧ inR (gx g 2 i) ∧ inR (gx g 3 i)
def mnS (A : Nat → Int) : Nat → Int
  | 0 => 0
  | i + 1 => if i = 0 then A 0 else min (mnS A i) (A i)
def mxS (A : Nat → Int) : Nat → Int
  | 0 => 0
  | i + 1 => if i = 0 then A 0 else max (mxS A i) (A i)
def okB (n : Nat) (A B C D : Nat → Int) : Prop := ∀ i, i < n → checkBoxS (A i) (B i) (C i) (D i) = 0
instance {n : Nat} {A B C D : Nat → Int} : Decidable (okB n A B C D) := by unfold okB; exact inferInstance
def joinS (n : Nat) (A B C D : Nat → Int) (k : Nat) : Int := if okB n A B C D then (match k with
  | 0 => mnS A n
  | 1 => mnS B n
  | 2 => mxS C n
  | _ => mxS D n) else 0
def c49 : Con
  | [.ro n 4 g] => some ([boxes n g, n ≤ 9223372036854775807], .agg [i64 (joinS n (gx g 0) (gx g 1) (gx g 2) (gx g 3) 0), i64 (joinS n (gx g 0) (gx g 1) (gx g 2) (gx g 3) 1), i64 (joinS n (gx g 0) (gx g 1) (gx g 2) (gx g 3) 2), i64 (joinS n (gx g 0) (gx g 1) (gx g 2) (gx g 3) 3)])
  | _ => none
theorem joinS_ok {n : Nat} {A B C D : Nat → Int} (h : okB n A B C D) : joinS n A B C D 0 = mnS A n ∧ joinS n A B C D 1 = mnS B n ∧ joinS n A B C D 2 = mxS C n ∧ joinS n A B C D 3 = mxS D n := by
  unfold joinS; rw [if_pos h, if_pos h, if_pos h, if_pos h]; exact ⟨rfl, rfl, rfl, rfl⟩
theorem joinS_no {n : Nat} {A B C D : Nat → Int} (h : ¬ okB n A B C D) {k : Nat} : joinS n A B C D k = 0 := by
  simp only [joinS, if_neg h]
theorem okB_succ {i : Nat} {A B C D : Nat → Int} (h : okB i A B C D) (h0 : checkBoxS (A i) (B i) (C i) (D i) = 0) : okB (i + 1) A B C D := fun k hk => by
  by_cases e : k = i
  · subst e; exact h0
  · exact h k (by omega)
theorem vc49 (n : Nat) (A B C D : Nat → Int) (hX : ∀ i, i < n → inR (A i) ∧ inR (B i) ∧ inR (C i) ∧ inR (D i)) (hn : n ≤ 9223372036854775807) : fnVC Tryz.prog [(31, c31)] [(9, ⟨[(11, .slot 3), (13, .slot 3)], [(8, [.slot 3])]⟩), (10, ⟨[(11, .slot 3), (13, .slot 3)], [(8, [.slot 3])]⟩)] Tryz.f49 [.ro n 4 fun i => [i64 (A i), i64 (B i), i64 (C i), i64 (D i)]] (· = .agg [i64 (joinS n A B C D 0), i64 (joinS n A B C D 1), i64 (joinS n A B C D 2), i64 (joinS n A B C D 3)]) := by
  refine fnVC_go (rs := [.cell 2 58]) rfl rfl ?_
  simp only [go_sem]
  refine loopC_go (fun (i : Nat) => i ≤ n ∧ okB i A B C D) (fun i => n - i) (fun i => [(8, i64 i)]) (fun i => [(1, fam1 58 4 [i64 (mnS A i), i64 (mnS B i), i64 (mxS C i), i64 (mxS D i)] none)]) [0] [9, 10, 11, 12, 5, 4, 13, 14, 15, 16, 17, 18, 19, 20, 21, 22, 23, 24, 25, 26, 27, 28, 29, 30, 31, 32, 33, 34, 35, 36, 37, 38, 39, 40, 41, 42, 43, 44, 8] 0 (by kernel_rfl) ?_ ?_ ?_ ?_
  · intro x _; simp [goodNames, asg]
  · simp [okB]
  · simp only [go_sem]; simp [mnS, mxS]
  · intro i hi
    simp only [go_sem, c31]
    obtain ⟨hi1, hi2⟩ := hi
    refine ⟨fun h => ?_, fun h => ?_⟩
    · have h1 : i < n := by omega
      obtain ⟨r1, r2, r3, r4⟩ := hX i h1
      refine ⟨by omega, h, fun z hz => ⟨r1, r2, r3, r4, fun hb => ?_, fun hb => ?_⟩⟩
      · have hno : ¬ okB n A B C D := fun hf => by
          have := hf i h1
          rw [← hz] at this
          simp [this] at hb
        simp only [joinS_no hno]
      · have hz0 : checkBoxS (A i) (B i) (C i) (D i) = 0 := by rw [← hz]; simpa using hb
        have hok := okB_succ hi2 hz0
        refine ⟨fun h0 z hz' z1 k1 z2 k2 z3 k3 z4 k4 => ⟨i + 1, ⟨by omega, hok⟩, by omega, by rw [wrap_i64] at k4; omega, ?_⟩, fun h0 z hz' z1 k1 z2 k2 z3 k3 z4 k4 => ⟨i + 1, ⟨by omega, hok⟩, by omega, by rw [wrap_i64] at k4; omega, ?_⟩⟩
        · have e : i = 0 := by simpa using h0
          subst e
          simp only [mnS, mxS, if_true]
          omega
        · have e : ¬ i = 0 := by simpa using h0
          simp only [mnS, mxS, if_neg e]
          exact ⟨hz', k1, k2, k3⟩
    · have e : i = n := by omega
      subst e
      obtain ⟨j1, j2, j3, j4⟩ := joinS_ok hi2
      rw [j1, j2, j3, j4]
theorem vc99 (n : Nat) (A B C D : Nat → Int) (hX : ∀ i, i < n → inR (A i) ∧ inR (B i) ∧ inR (C i) ∧ inR (D i)) (hn : n ≤ 9223372036854775807) : fnVC Tryz.prog [(73, c73)] [(9, ⟨[(33, .slot 3)], []⟩)] Tryz.f99 [.ro n 4 fun i => [i64 (A i), i64 (B i), i64 (C i), i64 (D i)]] (· = .agg [i64 (joinS n A B C D 0), i64 (joinS n A B C D 1), i64 (joinS n A B C D 2), i64 (joinS n A B C D 3)]) := by
  refine fnVC_go (rs := [.cell 2 58]) rfl rfl ?_
  simp only [go_sem]
  refine loopC_go (fun (i : Nat) => i ≤ n ∧ okB i A B C D) (fun i => n - i) (fun i => [(4, i64 i)]) (fun i => [(2, fam1 58 4 [i64 (mnS A i), i64 (mnS B i), i64 (mxS C i), i64 (mxS D i)] none)]) [0] [6, 7, 8, 9, 12, 13, 14, 15, 16, 17, 18, 19, 20, 21, 22, 23, 24, 25, 26, 27, 28, 29, 30, 31, 32, 33, 34, 35, 36, 37, 38, 39, 40, 41, 42, 43, 44, 45, 46, 47, 48, 49, 50, 51, 52, 53, 54, 55, 56, 10, 11, 4] 0 (by kernel_rfl) ?_ ?_ ?_ ?_
  · intro x _; simp [goodNames, asg]
  · simp [okB]
  · simp only [go_sem]; simp [mnS, mxS]
  · intro i hi
    simp only [go_sem, c73]
    obtain ⟨hi1, hi2⟩ := hi
    refine ⟨fun h => ?_, fun h => ?_⟩
    · have h1 : i < n := by omega
      refine ⟨by omega, h, fun z hz => ⟨fun hb => ?_, fun hb => ?_⟩⟩
      · have hno : ¬ okB n A B C D := fun hf => by
          have := hf i h1
          rw [← hz] at this
          simp [this] at hb
        simp only [joinS_no hno]
      · have hz0 : checkBoxS (A i) (B i) (C i) (D i) = 0 := by rw [← hz]; simpa using hb
        have hok := okB_succ hi2 hz0
        refine ⟨fun h0 => ⟨by omega, fun z4 k4 => ⟨i + 1, ⟨by omega, hok⟩, by omega, by rw [wrap_i64] at k4; omega, ?_⟩⟩, fun h0 => ⟨by omega, h, fun z hz' => ⟨by omega, h, fun z1 k1 => ⟨by omega, h, fun z2 k2 => ⟨by omega, h, fun z3 k3 z4 k4 => ⟨i + 1, ⟨by omega, hok⟩, by omega, by rw [wrap_i64] at k4; omega, ?_⟩⟩⟩⟩⟩⟩
        · have e : i = 0 := by simpa using h0
          subst e
          simp only [mnS, mxS, if_true, and_self]
        · have e : ¬ i = 0 := by simpa using h0
          simp only [mnS, mxS, if_neg e]
          exact ⟨hz', k1, k2, k3⟩
    · have e : i = n := by omega
      subst e
      obtain ⟨j1, j2, j3, j4⟩ := joinS_ok hi2
      rw [j1, j2, j3, j4]
theorem con49 : ConOK Tryz.prog 49 c49 := ConOK.go (G := [(31, c31)]) (H := [(9, ⟨[(11, .slot 3), (13, .slot 3)], [(8, [.slot 3])]⟩), (10, ⟨[(11, .slot 3), (13, .slot 3)], [(8, [.slot 3])]⟩)]) (.cons con31 .nil) Tryz.func49 fun l ob r hc hob => by
  unfold c49 at hc
  split at hc
  · rename_i n g
    cases hc
    have hs : boxes n g := hob _ (by simp)
    exact ⟨[.ro n 4 fun i => [i64 (gx g 0 i), i64 (gx g 1 i), i64 (gx g 2 i), i64 (gx g 3 i)]], fun w I vs h => Rs_one (fun v => ro_alike fun i hi => (hs i hi).1) h, by kernel_rfl, vc49 n _ _ _ _ (fun i hi => (hs i hi).2) (hob _ (by simp))⟩
  · cases hc
def c99 : Con := c49
theorem con99 : ConOK Tryz.prog 99 c99 := ConOK.go (G := [(73, c73)]) (H := [(9, ⟨[(33, .slot 3)], []⟩)]) (.cons con73 .nil) Tryz.func99 fun l ob r hc hob => by
  unfold c99 c49 at hc
  split at hc
  · rename_i n g
    cases hc
    have hs : boxes n g := hob _ (by simp)
    exact ⟨[.ro n 4 fun i => [i64 (gx g 0 i), i64 (gx g 1 i), i64 (gx g 2 i), i64 (gx g 3 i)]], fun w I vs h => Rs_one (fun v => ro_alike fun i hi => (hs i hi).1) h, by kernel_rfl, vc99 n _ _ _ _ (fun i hi => (hs i hi).2) (hob _ (by simp))⟩
  · cases hc

/-! ### Spots and boxes that numbers make -/
def c32 : Con
  | [.v (.int .i64 x), .v (.int .i64 y), .v (.int .i64 s)] => some ([0 ≤ s, s ≤ 4611686018427387904], .agg [i64 (x.tmod (s + 1)), i64 (y.tmod (s + 1))])
  | _ => none
theorem con32 : ConOK Tryz.prog 32 c32 := ConOK.of (G := []) (H := []) .nil Tryz.func32 fun l ob r hc hob => by
  unfold c32 at hc
  split at hc
  · rename_i x y s
    cases hc
    refine ⟨by kernel_rfl, fnVC_go (rs := [.cell 6 34]) rfl rfl ?_⟩
    have h0 : 0 ≤ s := hob _ (by simp)
    have h1 : s ≤ 4611686018427387904 := hob _ (by simp)
    simp only [go_sem]
    have e : IntKind.i64.wrap (s + 1) = s + 1 := wrap_in (by unfold inR; omega)
    rw [e]
    intro z hz
    subst hz
    refine ⟨by omega, fun z1 k1 z hz => ?_⟩
    subst hz k1
    refine ⟨by omega, fun z2 k2 => ?_⟩
    subst k2
    rfl
  · cases hc
/-- A remainder that is not below 0. -/
def modS (n m : Int) : Int := if n.tmod m < 0 then n.tmod m + m else n.tmod m
def c84 : Con
  | [.v (.int .i64 n), .v (.int .i64 m)] => some ([0 < m, inR n, inR m], i64 (modS n m))
  | _ => none
theorem con84 : ConOK Tryz.prog 84 c84 := ConOK.of (G := []) (H := []) .nil Tryz.func84 fun l ob r hc hob => by
  unfold c84 at hc
  split at hc
  · rename_i n m
    cases hc
    refine ⟨by kernel_rfl, fnVC_go (rs := [.tmp 4]) rfl rfl ?_⟩
    have h0 : 0 < m := hob _ (by simp)
    have h1 : inR n := hob _ (by simp)
    have h2 : inR m := hob _ (by simp)
    simp only [go_sem]
    refine ⟨by omega, fun z hz => ⟨fun hn z1 k1 => ?_, fun hn => ?_⟩⟩
    · have hb : -m < z := by rw [hz]; have := Int.lt_tmod_of_pos n h0; omega
      unfold inR at h2
      rw [wrap_in (by unfold inR; omega)] at k1
      unfold modS
      rw [← hz, if_pos hn, k1]
    · unfold modS
      rw [← hz, if_neg hn]
  · cases hc

/-! ### Sides -/
theorem mul_bd {x y A B : Int} (hA : 0 ≤ A) (hx : -A ≤ x ∧ x ≤ A) (hy : -B ≤ y ∧ y ≤ B) : -(A * B) ≤ x * y ∧ x * y ≤ A * B := by
  have h1 : (x * y).natAbs = x.natAbs * y.natAbs := Int.natAbs_mul x y
  have h2 : x.natAbs * y.natAbs ≤ A.natAbs * B.natAbs := Nat.mul_le_mul (by omega) (by omega)
  have h3 : (A * B).natAbs = A.natAbs * B.natAbs := Int.natAbs_mul A B
  have h4 : 0 ≤ A * B := Int.mul_nonneg hA (by omega)
  omega
/-- An even smaller number. -/
def sm (x : Int) : Prop := -4194304 ≤ x ∧ x ≤ 4194304
theorem sm_mul {x y : Int} (hx : sm x) (hy : sm y) : -17592186044416 ≤ x * y ∧ x * y ≤ 17592186044416 := by
  have := mul_bd (A := 4194304) (B := 4194304) (by omega) hx hy
  omega
def c154 : Con
  | [.agg [.v (.int .i64 a), .v (.int .i64 b)], .agg [.v (.int .i64 c), .v (.int .i64 d)]] => some ([], .agg [i64 (IntKind.i64.wrap (c - a)), i64 (IntKind.i64.wrap (d - b))])
  | _ => none
theorem con154 : ConOK Tryz.prog 154 c154 := ConOK.of (G := []) (H := []) .nil Tryz.func154 fun l ob r hc hob => by
  unfold c154 at hc
  split at hc
  · cases hc
    refine ⟨by kernel_rfl, fnVC_go (rs := [.cell 4 34]) rfl rfl ?_⟩
    simp only [go_sem]
    intro z h z1 h1
    subst h h1
    rfl
  · cases hc
def c81 : Con
  | [.agg [.v (.int .i64 a), .v (.int .i64 b)], .agg [.v (.int .i64 c), .v (.int .i64 d)]] => some ([], .agg [i64 (IntKind.i64.wrap (a - c)), i64 (IntKind.i64.wrap (b - d))])
  | _ => none
theorem con81 : ConOK Tryz.prog 81 c81 := ConOK.of (G := []) (H := []) .nil Tryz.func81 fun l ob r hc hob => by
  unfold c81 at hc
  split at hc
  · cases hc
    refine ⟨by kernel_rfl, fnVC_go (rs := [.cell 4 34]) rfl rfl ?_⟩
    simp only [go_sem]
    intro z h z1 h1
    subst h h1
    rfl
  · cases hc
def c164 : Con
  | [.agg [.v (.int .i64 a), .v (.int .i64 b)], .agg [.v (.int .i64 c), .v (.int .i64 d)]] => some ([], i64 (IntKind.i64.wrap (IntKind.i64.wrap (a * d) - IntKind.i64.wrap (b * c))))
  | _ => none
theorem con164 : ConOK Tryz.prog 164 c164 := ConOK.of (G := []) (H := []) .nil Tryz.func164 fun l ob r hc hob => by
  unfold c164 at hc
  split at hc
  · cases hc
    refine ⟨by kernel_rfl, fnVC_go (rs := [.tmp 4]) rfl rfl ?_⟩
    simp only [go_sem]
    intro z h z1 h1 z2 h2
    rw [h2, h1, h]
  · cases hc
theorem con80 : ConOK Tryz.prog 80 c164 := ConOK.of (G := []) (H := []) .nil Tryz.func80 fun l ob r hc hob => by
  unfold c164 at hc
  split at hc
  · cases hc
    refine ⟨by kernel_rfl, fnVC_go (rs := [.tmp 4]) rfl rfl ?_⟩
    simp only [go_sem]
    intro z h z1 h1 z2 h2
    rw [h2, h1, h]
  · cases hc
/-- (b - a) x (c - a). -/
def turnS (ax ay bx byy cx cy : Int) : Int := (bx - ax) * (cy - ay) - (byy - ay) * (cx - ax)
theorem turn_wrap {ax ay bx byy cx cy : Int} (ha : validS ax ay = true) (hb : validS bx byy = true) (hc : validS cx cy = true) :
    IntKind.i64.wrap (IntKind.i64.wrap (IntKind.i64.wrap (bx - ax) * IntKind.i64.wrap (cy - ay)) - IntKind.i64.wrap (IntKind.i64.wrap (byy - ay) * IntKind.i64.wrap (cx - ax))) = turnS ax ay bx byy cx cy := by
  rw [validS_iff] at ha hb hc
  rw [wrap_in (x := bx - ax) (by unfold inR; omega), wrap_in (x := cy - ay) (by unfold inR; omega), wrap_in (x := byy - ay) (by unfold inR; omega), wrap_in (x := cx - ax) (by unfold inR; omega)]
  have h1 := sm_mul (x := bx - ax) (y := cy - ay) (by unfold sm; omega) (by unfold sm; omega)
  have h2 := sm_mul (x := byy - ay) (y := cx - ax) (by unfold sm; omega) (by unfold sm; omega)
  rw [wrap_in (x := (bx - ax) * (cy - ay)) (by unfold inR; omega), wrap_in (x := (byy - ay) * (cx - ax)) (by unfold inR; omega), wrap_in (by unfold inR; omega)]
  rfl
def c97 : Con
  | [.agg [.v (.int .i64 a), .v (.int .i64 b)], .agg [.v (.int .i64 c), .v (.int .i64 d)], .agg [.v (.int .i64 e), .v (.int .i64 f)]] => some ([validS a b = true, validS c d = true, validS e f = true], i64 (turnS a b c d e f))
  | _ => none
theorem con97 : ConOK Tryz.prog 97 c97 := ConOK.of (G := [(164, c164), (154, c154)]) (H := []) (.cons con164 (.cons con154 .nil)) Tryz.func97 fun l ob r hc hob => by
  unfold c97 at hc
  split at hc
  · rename_i a b c d e f
    cases hc
    have h1 : validS a b = true := hob _ (by simp)
    have h2 : validS c d = true := hob _ (by simp)
    have h3 : validS e f = true := hob _ (by simp)
    refine ⟨by kernel_rfl, fnVC_go (rs := [.tmp 6]) rfl rfl ?_⟩
    simp only [go_sem, c164, c154]
    intro z k z1 k1 z2 k2 z3 k3 z4 k4
    subst k k1 k2 k3
    rw [k4, turn_wrap h1 h2 h3]
  · cases hc
def sideS (a b c d e f : Int) : Int := if validS a b = true ∧ validS c d = true ∧ validS e f = true then (if 0 < turnS a b c d e f then 1 else if turnS a b c d e f < 0 then -1 else 0) else 0
def c56 : Con
  | [.agg [.v (.int .i64 a), .v (.int .i64 b)], .agg [.v (.int .i64 c), .v (.int .i64 d)], .agg [.v (.int .i64 e), .v (.int .i64 f)]] => some ([inR a, inR b, inR c, inR d, inR e, inR f], i64 (sideS a b c d e f))
  | _ => none
theorem fair3 {a b c d e f : Int} {g : Nat → List AV} (h0 : g 0 = [i64 a, i64 b]) (h1 : g 1 = [i64 c, i64 d]) (h2 : g 2 = [i64 e, i64 f]) : fairS 3 (gx g 0) (gx g 1) = true ↔ (validS a b = true ∧ validS c d = true ∧ validS e f = true) := by
  rw [fairS_iff]
  constructor
  · intro h
    have k0 := h 0 (by omega)
    have k1 := h 1 (by omega)
    have k2 := h 2 (by omega)
    simp only [gx, h0, h1, h2, gi_0, gi_1] at k0 k1 k2
    exact ⟨k0, k1, k2⟩
  · intro h i hi
    have : i = 0 ∨ i = 1 ∨ i = 2 := by omega
    rcases this with rfl | rfl | rfl
    · simp only [gx, h0, gi_0, gi_1]; exact h.1
    · simp only [gx, h1, gi_0, gi_1]; exact h.2.1
    · simp only [gx, h2, gi_0, gi_1]; exact h.2.2
theorem spots3 {a b c d e f : Int} {g : Nat → List AV} (h0 : g 0 = [i64 a, i64 b]) (h1 : g 1 = [i64 c, i64 d]) (h2 : g 2 = [i64 e, i64 f]) (ha : inR a) (hb : inR b) (hc : inR c) (hd : inR d) (he : inR e) (hf : inR f) : spots 3 g := by
  intro i hi
  have : i = 0 ∨ i = 1 ∨ i = 2 := by omega
  rcases this with rfl | rfl | rfl
  · simp only [gx, h0, gi_0, gi_1]; exact ⟨trivial, ha, hb⟩
  · simp only [gx, h1, gi_0, gi_1]; exact ⟨trivial, hc, hd⟩
  · simp only [gx, h2, gi_0, gi_1]; exact ⟨trivial, he, hf⟩
theorem con56 : ConOK Tryz.prog 56 c56 := ConOK.of (G := [(70, c70), (97, c97)]) (H := []) (.cons con70 (.cons con97 .nil)) Tryz.func56 fun l ob r hc hob => by
  unfold c56 at hc
  split at hc
  · rename_i a b c d e f
    cases hc
    have ha : inR a := hob _ (by simp)
    have hb : inR b := hob _ (by simp)
    have hc : inR c := hob _ (by simp)
    have hd : inR d := hob _ (by simp)
    have he : inR e := hob _ (by simp)
    have hf : inR f := hob _ (by simp)
    refine ⟨by kernel_rfl, fnVC_go (rs := [.tmp 6]) rfl rfl ?_⟩
    simp only [go_sem, c70, c97]
    intro z hz
    have hfair := (Bool.eq_iff_iff.1 hz).trans (fair3 (a := a) (b := b) (c := c) (d := d) (e := e) (f := f) rfl rfl rfl)
    refine ⟨spots3 (a := a) (b := b) (c := c) (d := d) (e := e) (f := f) rfl rfl rfl ha hb hc hd he hf, ?_⟩
    clear hz
    refine ⟨fun h t ht => ?_, fun h => ⟨fun x => x.elim, fun _ => ⟨fun x => x.elim, fun _ => ?_⟩⟩⟩
    · have hv := hfair.1 h
      refine ⟨hv.1, hv.2.1, hv.2.2, fun k => ?_, fun k => ⟨fun k2 => ?_, fun k2 => ?_⟩⟩
      · unfold sideS; rw [if_pos hv, ← ht, if_pos k]
      · unfold sideS; rw [if_pos hv, ← ht, if_neg k, if_pos k2]
      · unfold sideS; rw [if_pos hv, ← ht, if_neg k, if_neg k2]
    · unfold sideS
      rw [if_neg (fun hv => by rw [hfair.2 hv] at h; cases h)]
  · cases hc
end Go.Ax
end

section
/-
  Vectors.
-/
set_option linter.unusedVariables false
set_option linter.unusedSimpArgs false
set_option maxHeartbeats 4000000
set_option maxRecDepth 100000
namespace Go.Ax
open Go.Proofs
/-! ### A type more -/
theorem lay250 : layT Tryz.prog 250 = some (true, 2) := by kernel_rfl
theorem siz250 : sizeT Tryz.prog 250 = 2 := by kernel_rfl
theorem inf250 : (Tryz.prog.info? 250).isSome = true := by kernel_rfl
theorem zer250 : zeroT Tryz.prog 250 = some (.agg #[.int .i64 0, .int .i64 0]) := by kernel_rfl
theorem cnc250 : concreteT Tryz.prog 250 = true := by kernel_rfl
theorem off250_0 : fOff Tryz.prog 250 0 = some 0 := by kernel_rfl
theorem fty250_0 : fTy Tryz.prog 250 0 = some 2 := by kernel_rfl
theorem off250_1 : fOff Tryz.prog 250 1 = some 1 := by kernel_rfl
theorem fty250_1 : fTy Tryz.prog 250 1 = some 2 := by kernel_rfl
theorem plc250 : bPlaces Tryz.prog 250 = some [(0, 1), (1, 1)] := by kernel_rfl
attribute [go_sem] lay250 siz250 inf250 zer250 cnc250 off250_0 fty250_0 off250_1 fty250_1 plc250
abbrev nb (a : Nb) : AV := .agg [i64 a.1, bo a.2]
abbrev ve (a b : Nb) : AV := .agg [i64 a.1, bo a.2, i64 b.1, bo b.2]
def nRat (a b : Int) : Nb := (raV a b, raF a b || false)
def nDot (a b c d : Nb) : Nb := (ftV ((whV a.1 * whV b.1 + whV c.1 * whV d.1).tdiv 4294967296), ftF ((whV a.1 * whV b.1 + whV c.1 * whV d.1).tdiv 4294967296) || (whF a.1 a.2 || whF b.1 b.2 || whF c.1 c.2 || whF d.1 d.2))
def nHyp (a b : Nb) : Nb := (ftV (isq (whV a.1 * whV a.1 + whV b.1 * whV b.1).toNat), ftF (isq (whV a.1 * whV a.1 + whV b.1 * whV b.1).toNat) || (whF a.1 a.2 || whF b.1 b.2))
def nSub (a b : Nb) : Nb := (ftV (whV a.1 - whV b.1), ftF (whV a.1 - whV b.1) || (whF a.1 a.2 || whF b.1 b.2))
def nPos (a : Nb) : Nb := (if 0 < whV a.1 then whV a.1 else 0, whF a.1 a.2)
theorem nRat_rg {a b : Int} : rg (nRat a b).1 := raV_rg
theorem nDot_rg {a b c d : Nb} : rg (nDot a b c d).1 := ftV_rg _
theorem nHyp_rg {a b : Nb} : rg (nHyp a b).1 := ftV_rg _
theorem nSub_rg {a b : Nb} : rg (nSub a b).1 := ftV_rg _

/-! ### The program's -/
def c63 : Con
  | [.agg [.v (.int .i64 x), .v (.int .i64 y)]] => some ([inR x, inR y], ve (nRat x 256) (nRat y 256))
  | _ => none
theorem con63 : ConOK Tryz.prog 63 c63 := ConOK.of (G := [(132, c132)]) (H := [(1, ⟨[(7, .slot 2)], []⟩)]) (.cons con132 .nil) Tryz.func63 fun l ob r hc hob => by
  unfold c63 at hc
  split at hc
  · rename_i x y
    cases hc
    have h_0 : inR x := hob _ (by simp)
    have h_1 : inR y := hob _ (by simp)
    refine ⟨by kernel_rfl, fnVC_go (rs := [.cell 2 28]) rfl rfl ?_⟩
    simp only [go_sem, c132]
    simp only [forall_eq]
    exact ⟨h_0, by unfold inR; omega, h_1, by unfold inR; omega, rfl⟩
  · cases hc
def c162 : Con
  | [.v (.int .i64 x)] => some ([inR x], nb (nRat x 256))
  | _ => none
theorem con162 : ConOK Tryz.prog 162 c162 := ConOK.of (G := [(132, c132)]) (H := []) (.cons con132 .nil) Tryz.func162 fun l ob r hc hob => by
  unfold c162 at hc
  split at hc
  · rename_i x
    cases hc
    have h_0 : inR x := hob _ (by simp)
    refine ⟨by kernel_rfl, fnVC_go (rs := [.cell 2 26]) rfl rfl ?_⟩
    simp only [go_sem, c132]
    simp only [forall_eq]
    exact ⟨h_0, by unfold inR; omega, rfl⟩
  · cases hc
def c161 : Con
  | [.agg [.v (.int .i64 x), .v (.bool e), .v (.int .i64 y), .v (.bool f)]] => some ([inR x, inR y], nb (nHyp (x, e) (y, f)))
  | _ => none
theorem con161 : ConOK Tryz.prog 161 c161 := ConOK.of (G := [(213, c213)]) (H := []) (.cons con213 .nil) Tryz.func161 fun l ob r hc hob => by
  unfold c161 at hc
  split at hc
  · rename_i x e y f
    cases hc
    have h_0 : inR x := hob _ (by simp)
    have h_1 : inR y := hob _ (by simp)
    refine ⟨by kernel_rfl, fnVC_go (rs := [.cell 2 26]) rfl rfl ?_⟩
    simp only [go_sem, c213]
    simp only [forall_eq]
    exact ⟨h_0, h_1, rfl⟩
  · cases hc
def c169 : Con
  | [.agg [.v (.int .i64 x), .v (.bool e), .v (.int .i64 y), .v (.bool f)], .agg [.v (.int .i64 k), .v (.bool g)]] => some ([inR x, inR y, inR k], ve (nMul (x, e) (k, g)) (nMul (y, f) (k, g)))
  | _ => none
theorem con169 : ConOK Tryz.prog 169 c169 := ConOK.of (G := [(129, c129)]) (H := [(1, ⟨[(9, .slot 4)], []⟩)]) (.cons con129 .nil) Tryz.func169 fun l ob r hc hob => by
  unfold c169 at hc
  split at hc
  · rename_i x e y f k g
    cases hc
    have h_0 : inR x := hob _ (by simp)
    have h_1 : inR y := hob _ (by simp)
    have h_2 : inR k := hob _ (by simp)
    refine ⟨by kernel_rfl, fnVC_go (rs := [.cell 4 28]) rfl rfl ?_⟩
    simp only [go_sem, c129]
    simp only [forall_eq]
    exact ⟨h_0, h_2, h_1, h_2, rfl⟩
  · cases hc
def c178 : Con
  | [.agg [.v (.int .i64 x), .v (.bool e), .v (.int .i64 y), .v (.bool f)], .agg [.v (.int .i64 z), .v (.bool g), .v (.int .i64 t), .v (.bool h)]] => some ([inR x, inR y, inR z, inR t], nb (nDot (x, e) (z, g) (y, f) (t, h)))
  | _ => none
theorem con178 : ConOK Tryz.prog 178 c178 := ConOK.of (G := [(125, c125)]) (H := []) (.cons con125 .nil) Tryz.func178 fun l ob r hc hob => by
  unfold c178 at hc
  split at hc
  · rename_i x e y f z g t h
    cases hc
    have h_0 : inR x := hob _ (by simp)
    have h_1 : inR y := hob _ (by simp)
    have h_2 : inR z := hob _ (by simp)
    have h_3 : inR t := hob _ (by simp)
    refine ⟨by kernel_rfl, fnVC_go (rs := [.cell 4 26]) rfl rfl ?_⟩
    simp only [go_sem, c125]
    simp only [forall_eq]
    exact ⟨h_0, h_2, h_1, h_3, rfl⟩
  · cases hc
def c250 : Con
  | [.agg [.v (.int .i64 x), .v (.bool e), .v (.int .i64 y), .v (.bool f)], .agg [.v (.int .i64 z), .v (.bool g), .v (.int .i64 t), .v (.bool h)]] => some ([inR x, inR y, inR z, inR t], nb (nDot (x, e) (t, h) (nNeg (y, f)) (z, g)))
  | _ => none
theorem con250 : ConOK Tryz.prog 250 c250 := ConOK.of (G := [(125, c125), (179, c179)]) (H := [(1, ⟨[(10, .slot 4)], []⟩)]) (.cons con125 (.cons con179 .nil)) Tryz.func250 fun l ob r hc hob => by
  unfold c250 at hc
  split at hc
  · rename_i x e y f z g t h
    cases hc
    have h_0 : inR x := hob _ (by simp)
    have h_1 : inR y := hob _ (by simp)
    have h_2 : inR z := hob _ (by simp)
    have h_3 : inR t := hob _ (by simp)
    refine ⟨by kernel_rfl, fnVC_go (rs := [.cell 4 26]) rfl rfl ?_⟩
    simp only [go_sem, c125, c179]
    simp only [forall_eq]
    exact ⟨h_1, h_0, h_3, rg_inR (nNeg_rg (a := (y, f)) h_1), h_2, rfl⟩
  · cases hc
def c166 : Con
  | [.v (.int .i64 x), .v (.int .i64 y)] => some ([inR x, inR y], ve (nInt x) (nInt y))
  | _ => none
theorem con166 : ConOK Tryz.prog 166 c166 := ConOK.of (G := [(127, c127)]) (H := []) (.cons con127 .nil) Tryz.func166 fun l ob r hc hob => by
  unfold c166 at hc
  split at hc
  · rename_i x y
    cases hc
    have h_0 : inR x := hob _ (by simp)
    have h_1 : inR y := hob _ (by simp)
    refine ⟨by kernel_rfl, fnVC_go (rs := [.cell 4 28]) rfl rfl ?_⟩
    simp only [go_sem, c127]
    simp only [forall_eq]
    exact ⟨h_0, h_1, rfl⟩
  · cases hc
def c176 : Con
  | [.agg [.v (.int .i64 x), .v (.int .i64 y)]] => some ([inR x, inR y], ve (nInt x) (nInt y))
  | _ => none
theorem con176 : ConOK Tryz.prog 176 c176 := ConOK.of (G := [(166, c166)]) (H := []) (.cons con166 .nil) Tryz.func176 fun l ob r hc hob => by
  unfold c176 at hc
  split at hc
  · rename_i x y
    cases hc
    have h_0 : inR x := hob _ (by simp)
    have h_1 : inR y := hob _ (by simp)
    refine ⟨by kernel_rfl, fnVC_go (rs := [.cell 2 28]) rfl rfl ?_⟩
    simp only [go_sem, c166]
    simp only [forall_eq]
    exact ⟨h_0, h_1, trivial⟩
  · cases hc
def c167 : Con
  | [.agg [.v (.int .i64 x), .v (.bool f)]] => some ([inR x], nb (nPos (x, f)))
  | _ => none
theorem con167 : ConOK Tryz.prog 167 c167 := ConOK.of (G := [(214, c214)]) (H := []) (.cons con214 .nil) Tryz.func167 fun l ob r hc hob => by
  unfold c167 at hc
  split at hc
  · rename_i x f
    cases hc
    have h_0 : inR x := hob _ (by simp)
    refine ⟨by kernel_rfl, fnVC_go (rs := [.cell 2 26]) rfl rfl ?_⟩
    simp only [go_sem, c214]
    simp only [forall_eq]
    refine ⟨nums2 rfl rfl (by unfold inR; omega) h_0, ?_⟩
    rw [mo2 rfl rfl, (sum2 (a := 0) (b := x) (e := false) (f := f) rfl rfl).2]
    have c1 : whV 0 = 0 := by decide
    have c2 : whF 0 false = false := by decide
    have e1 : ((-1 : Int) = 1) = False := by decide
    simp only [c1, c2, e1, false_and, false_or, eq_self, true_and, Bool.false_or]
    rfl
  · cases hc
def c254 : Con
  | [.agg [.v (.int .i64 a), .v (.int .i64 b)], .agg [.v (.int .i64 c), .v (.int .i64 d)]] => some ([inR a, inR b, inR c, inR d], bo (decide (c * b < a * d)))
  | _ => none
theorem con254 : ConOK Tryz.prog 254 c254 := ConOK.of (G := [(211, c211)]) (H := []) (.cons con211 .nil) Tryz.func254 fun l ob r hc hob => by
  unfold c254 at hc
  split at hc
  · rename_i a b c d
    cases hc
    have h_0 : inR a := hob _ (by simp)
    have h_1 : inR b := hob _ (by simp)
    have h_2 : inR c := hob _ (by simp)
    have h_3 : inR d := hob _ (by simp)
    refine ⟨by kernel_rfl, fnVC_go (rs := [.tmp 4]) rfl rfl ?_⟩
    simp only [go_sem, c211]
    simp only [forall_eq]
    refine ⟨h_0, h_3, h_2, h_1, ?_⟩
    rw [decide_eq_decide]
    unfold cmpS
    split
    · omega
    · split <;> omega
  · cases hc
/-! ### The reference's -/
def c69 : Con
  | [.agg [.v (.int .i64 x), .v (.int .i64 y)]] => some ([inR x, inR y], ve (nRat x 256) (nRat y 256))
  | _ => none
theorem con69 : ConOK Tryz.prog 69 c69 := ConOK.of (G := [(54, c54)]) (H := [(1, ⟨[(7, .slot 2)], []⟩)]) (.cons con54 .nil) Tryz.func69 fun l ob r hc hob => by
  unfold c69 at hc
  split at hc
  · rename_i x y
    cases hc
    have h_0 : inR x := hob _ (by simp)
    have h_1 : inR y := hob _ (by simp)
    refine ⟨by kernel_rfl, fnVC_go (rs := [.cell 2 28]) rfl rfl ?_⟩
    simp only [go_sem, c54]
    simp only [forall_eq]
    exact ⟨h_0, by unfold inR; omega, h_1, by unfold inR; omega, rfl⟩
  · cases hc
def c86 : Con
  | [.agg [.v (.int .i64 v), .v (.bool f)]] => some ([inR v], ve (csV v f, csF v f) (snV v f, snF v f))
  | _ => none
theorem con86 : ConOK Tryz.prog 86 c86 := ConOK.of (G := [(150, c150), (151, c151)]) (H := [(1, ⟨[(5, .slot 2)], []⟩)]) (.cons con150 (.cons con151 .nil)) Tryz.func86 fun l ob r hc hob => by
  unfold c86 at hc
  split at hc
  · rename_i v f
    cases hc
    have h_0 : inR v := hob _ (by simp)
    refine ⟨by kernel_rfl, fnVC_go (rs := [.cell 2 30]) rfl rfl ?_⟩
    simp only [go_sem, c150, c151]
    simp only [forall_eq]
    exact ⟨h_0, h_0, trivial⟩
  · cases hc
def c139 : Con
  | [.agg [.v (.int .i64 x), .v (.bool e), .v (.int .i64 y), .v (.bool f)], .agg [.v (.int .i64 z), .v (.bool g), .v (.int .i64 t), .v (.bool h)]] => some ([inR x, inR y, inR z, inR t], ve (nDot (x, e) (z, g) (nNeg (y, f)) (t, h)) (nDot (y, f) (z, g) (x, e) (t, h)))
  | _ => none
theorem con139 : ConOK Tryz.prog 139 c139 := ConOK.of (G := [(111, c111), (136, c136)]) (H := [(1, ⟨[(20, .slot 4)], []⟩)]) (.cons con111 (.cons con136 .nil)) Tryz.func139 fun l ob r hc hob => by
  unfold c139 at hc
  split at hc
  · rename_i x e y f z g t h
    cases hc
    have h_0 : inR x := hob _ (by simp)
    have h_1 : inR y := hob _ (by simp)
    have h_2 : inR z := hob _ (by simp)
    have h_3 : inR t := hob _ (by simp)
    refine ⟨by kernel_rfl, fnVC_go (rs := [.cell 4 28]) rfl rfl ?_⟩
    simp only [go_sem, c111, c136]
    simp only [forall_eq]
    exact ⟨h_1, h_0, h_2, rg_inR (nNeg_rg (a := (y, f)) h_1), h_3, h_1, h_2, h_0, h_3, rfl⟩
  · cases hc
theorem nums1 {a : Int} {e : Bool} {g : Nat → List AV} (h0 : g 0 = [i64 a, bo e]) (ha : inR a) : nums 1 g := by
  intro i hi
  have : i = 0 := by omega
  subst this
  simp only [gx, gb, h0, gi_0, gib_1]; exact ⟨trivial, ha⟩
def c137 : Con
  | [.agg [.v (.int .i64 x), .v (.bool f)]] => some ([inR x], bo (whF x f))
  | _ => none
theorem con137 : ConOK Tryz.prog 137 c137 := ConOK.of (G := [(110, c110)]) (H := []) (.cons con110 .nil) Tryz.func137 fun l ob r hc hob => by
  unfold c137 at hc
  split at hc
  · rename_i x f
    cases hc
    have h_0 : inR x := hob _ (by simp)
    refine ⟨by kernel_rfl, fnVC_go (rs := [.tmp 2]) rfl rfl ?_⟩
    simp only [go_sem, c110]
    simp only [forall_eq]
    have e : suS (wvS (rowsOf 2 [i64 x, bo f])) 1 = whV x := by
      show 0 + whV (gx (rowsOf 2 [i64 x, bo f]) 0 0) = _
      rw [Int.zero_add]; rfl
    have e2 : wfS 1 (rowsOf 2 [i64 x, bo f]) = whF x f := by
      show (false || whF (gx (rowsOf 2 [i64 x, bo f]) 0 0) (gb (rowsOf 2 [i64 x, bo f]) 1 0)) = _
      rfl
    rw [e, e2, ftF_of (whV_rg h_0)]
    exact ⟨nums1 rfl h_0, rfl⟩
  · cases hc
def c65 : Con
  | [.agg [.v (.int .i64 x), .v (.bool e), .v (.int .i64 y), .v (.bool f)]] => some ([inR x, inR y], i64 (if (whF x e = true ∨ whF y f = true) ∨ (65536 < (nDot (x, e) (x, e) (y, f) (y, f)).1 - 4294967296 ∨ 65536 < 4294967296 - (nDot (x, e) (x, e) (y, f) (y, f)).1) then 3 else 0))
  | _ => none
theorem con65 : ConOK Tryz.prog 65 c65 := ConOK.of (G := [(136, c136), (137, c137)]) (H := []) (.cons con136 (.cons con137 .nil)) Tryz.func65 fun l ob r hc hob => by
  unfold c65 at hc
  split at hc
  · rename_i x e y f
    cases hc
    have h_0 : inR x := hob _ (by simp)
    have h_1 : inR y := hob _ (by simp)
    refine ⟨by kernel_rfl, fnVC_go (rs := [.tmp 2]) rfl rfl ?_⟩
    simp only [go_sem, c136, c137]
    simp only [forall_eq]
    have k0 : 0 ≤ (whV x * whV x + whV y * whV y).tdiv 4294967296 := Int.tdiv_nonneg (by have := sq_nonneg (a := whV x); have := sq_nonneg (a := whV y); omega) (by omega)
    have k1 : 0 ≤ ftV ((whV x * whV x + whV y * whV y).tdiv 4294967296) ∧ ftV ((whV x * whV x + whV y * whV y).tdiv 4294967296) ≤ 9223372036854775807 := by unfold ftV; (repeat' split) <;> omega
    have e : (nDot (x, e) (x, e) (y, f) (y, f)).1 = ftV ((whV x * whV x + whV y * whV y).tdiv 4294967296) := rfl
    rw [e]
    generalize ftV ((whV x * whV x + whV y * whV y).tdiv 4294967296) = n at *
    rw [wrap_in (x := n - 4294967296) (by unfold inR; omega), wrap_in (x := 4294967296 - n) (by unfold inR; omega)]
    refine ⟨h_0, h_0, h_1, h_1, h_0, fun _ => h_1, fun h => ?_, fun h => ?_⟩
    · rw [if_pos (by rcases h with (h | h) | h
                     · exact .inl h
                     · exact .inr (.inl h)
                     · exact .inr (.inr h))]
    · rw [if_neg (by
        rintro ((k | k) | (k | k))
        · rw [h.1.1.1] at k; cases k
        · rw [h.1.1.2] at k; cases k
        · exact h.1.2 k
        · exact h.2 k)]
  · cases hc
def c85 : Con
  | [.v (.int .i64 n), .v (.int .i64 s)] => some ([inR n, 1 ≤ s ∧ s ≤ 1000000], .agg [i64 (n.tmod (s * 4294967296)), bo false])
  | _ => none
theorem con85 : ConOK Tryz.prog 85 c85 := ConOK.of (G := []) (H := []) .nil Tryz.func85 fun l ob r hc hob => by
  unfold c85 at hc
  split at hc
  · rename_i n s
    cases hc
    have h_0 : inR n := hob _ (by simp)
    have h_1 : 1 ≤ s ∧ s ≤ 1000000 := hob _ (by simp)
    refine ⟨by kernel_rfl, fnVC_go (rs := [.cell 4 26]) rfl rfl ?_⟩
    simp only [go_sem]
    intro z hz
    rw [wrap_in (by unfold inR; omega)] at hz
    rw [hz]
    exact ⟨by omega, fun z1 hz1 => by rw [hz1]⟩
  · cases hc
def c133 : Con
  | [.v (.int .i64 n)] => some ([], bo (decide (16 ≤ n ∧ n ≤ 4096)))
  | _ => none
theorem con133 : ConOK Tryz.prog 133 c133 := ConOK.of (G := []) (H := []) .nil Tryz.func133 fun l ob r hc hob => by
  unfold c133 at hc
  split at hc
  · rename_i n
    cases hc
    refine ⟨by kernel_rfl, fnVC_go (rs := [.tmp 2]) rfl rfl ?_⟩
    simp only [go_sem]
    rw [Bool.eq_iff_iff]; simp
  · cases hc
def c134 : Con
  | [.v (.int .i64 n)] => some ([], bo (decide (-4096 ≤ n ∧ n ≤ 4096)))
  | _ => none
theorem con134 : ConOK Tryz.prog 134 c134 := ConOK.of (G := []) (H := []) .nil Tryz.func134 fun l ob r hc hob => by
  unfold c134 at hc
  split at hc
  · rename_i n
    cases hc
    refine ⟨by kernel_rfl, fnVC_go (rs := [.tmp 2]) rfl rfl ?_⟩
    simp only [go_sem]
    rw [Bool.eq_iff_iff]; simp
  · cases hc
def c203 : Con
  | [.agg [.v (.int .i64 a), .v (.int .i64 b)], .agg [.v (.int .i64 c), .v (.int .i64 d)]] => some ([], i64 (IntKind.i64.wrap (a * d - b * c)))
  | _ => none
theorem con203 : ConOK Tryz.prog 203 c203 := ConOK.of (G := []) (H := []) .nil Tryz.func203 fun l ob r hc hob => by
  unfold c203 at hc
  split at hc
  · rename_i a b c d
    cases hc
    refine ⟨by kernel_rfl, fnVC_go (rs := [.tmp 4]) rfl rfl ?_⟩
    simp only [go_sem]
    simp only [forall_eq]
    rw [wrap_i64, wrap_i64, wrap_i64, wrap_i64]
    generalize a * d = p
    generalize b * c = q
    omega
  · cases hc
def c204 : Con
  | [.agg [.v (.int .i64 a), .v (.int .i64 b)], .agg [.v (.int .i64 c), .v (.int .i64 d)]] => some ([], .agg [i64 (IntKind.i64.wrap (a - c)), i64 (IntKind.i64.wrap (b - d))])
  | _ => none
theorem con204 : ConOK Tryz.prog 204 c204 := ConOK.of (G := []) (H := []) .nil Tryz.func204 fun l ob r hc hob => by
  unfold c204 at hc
  split at hc
  · rename_i a b c d
    cases hc
    refine ⟨by kernel_rfl, fnVC_go (rs := [.cell 4 34]) rfl rfl ?_⟩
    simp only [go_sem]
    simp only [forall_eq]
  · cases hc
def c205 : Con
  | [.agg [.v (.int .i64 a), .v (.int .i64 b)]] => some ([-1000000 ≤ a ∧ a ≤ 1000000, -1000000 ≤ b ∧ b ≤ 1000000], i64 (ab a + ab b))
  | _ => none
theorem con205 : ConOK Tryz.prog 205 c205 := ConOK.of (G := []) (H := []) .nil Tryz.func205 fun l ob r hc hob => by
  unfold c205 at hc
  split at hc
  · rename_i a b
    cases hc
    have h_0 : -1000000 ≤ a ∧ a ≤ 1000000 := hob _ (by simp)
    have h_1 : -1000000 ≤ b ∧ b ≤ 1000000 := hob _ (by simp)
    refine ⟨by kernel_rfl, fnVC_go (rs := [.tmp 2]) rfl rfl ?_⟩
    simp only [go_sem]
    simp only [forall_eq]
    rw [wrap_in (x := 0 - a) (by unfold inR; omega), wrap_in (x := 0 - b) (by unfold inR; omega), wrap_in (by unfold inR; omega)]
    unfold ab
    split <;> split <;> omega
  · cases hc
def c66 : Con
  | [.agg [.v (.int .i64 a), .v (.bool e)]] => some ([inR a], bo (whF a e || decide (17592186044416 < ab (whV a))))
  | _ => none
theorem con66 : ConOK Tryz.prog 66 c66 := ConOK.of (G := [(45, c45)]) (H := []) (.cons con45 .nil) Tryz.func66 fun l ob r hc hob => by
  unfold c66 at hc
  split at hc
  · rename_i a e
    cases hc
    have h_0 : inR a := hob _ (by simp)
    refine ⟨by kernel_rfl, fnVC_go (rs := [.tmp 2]) rfl rfl ?_⟩
    simp only [go_sem, c45]
    simp only [forall_eq]
    exact ⟨h_0, trivial⟩
  · cases hc
def spV (a : Nb) : Int := (whV (nMul a (nInt 256)).1 + 2147483648) / 4294967296
def c67 : Con
  | [.agg [.v (.int .i64 a), .v (.bool e), .v (.int .i64 b), .v (.bool f)]] => some ([inR a, inR b], .agg [i64 (spV (a, e)), i64 (spV (b, f))])
  | _ => none
theorem con67 : ConOK Tryz.prog 67 c67 := ConOK.of (G := [(50, c50), (51, c51), (52, c52)]) (H := [(2, ⟨[(11, .slot 2)], []⟩)]) (.cons con50 (.cons con51 (.cons con52 .nil))) Tryz.func67 fun l ob r hc hob => by
  unfold c67 at hc
  split at hc
  · rename_i a e b f
    cases hc
    have h_0 : inR a := hob _ (by simp)
    have h_1 : inR b := hob _ (by simp)
    refine ⟨by kernel_rfl, fnVC_go (rs := [.cell 2 34]) rfl rfl ?_⟩
    simp only [go_sem, c50, c51, c52]
    simp only [forall_eq]
    exact ⟨by unfold inR; omega, h_0, rg_inR (ftV_rg _), rg_inR (ftV_rg _), h_1, rg_inR (ftV_rg _), rg_inR (ftV_rg _), rfl⟩
  · cases hc
/-! ### Directions -/
/-- Whether one of some vectors is flagged. -/
def vfS (n : Nat) (g : Nat → List AV) : Bool := anyB (fun i => whF (gx g 0 i) (gb g 1 i) || whF (gx g 2 i) (gb g 3 i)) n
theorem gib_3 {a b c : AV} {x : Bool} {l : List AV} : gib (a :: b :: c :: .v (.bool x) :: l) 3 = x := (rfl)
attribute [go_sem] gib_3
def vecs (n : Nat) (g : Nat → List AV) : Prop := ∀ i, i < n → g i = [i64 (gx g 0 i), bo (gb g 1 i), i64 (gx g 2 i), bo (gb g 3 i)] ∧ inR (gx g 0 i) ∧ inR (gx g 2 i)
def c193 : Con
  | [.agg [.v (.int .i64 x), .v (.bool e), .v (.int .i64 y), .v (.bool f)]] => some ([inR x, inR y], bo (whF x e || whF y f))
  | _ => none
theorem con193 : ConOK Tryz.prog 193 c193 := ConOK.of (G := [(179, c179)]) (H := []) (.cons con179 .nil) Tryz.func193 fun l ob r hc hob => by
  unfold c193 at hc
  split at hc
  · rename_i x e y f
    cases hc
    have h_0 : inR x := hob _ (by simp)
    have h_1 : inR y := hob _ (by simp)
    refine ⟨by kernel_rfl, fnVC_go (rs := [.tmp 2]) rfl rfl ?_⟩
    simp only [go_sem, c179]
    simp only [forall_eq]
    exact ⟨h_0, fun _ => h_1, trivial⟩
  · cases hc
/-- The first one of some, or -1. -/
def ixS (G : Nat → Bool) : Nat → Nat → Int
  | _, 0 => -1
  | i, k + 1 => if G i = true then i else ixS G (i + 1) k
theorem ixS_any {G : Nat → Bool} {n : Nat} : ∀ (k i : Nat), i + k = n → (∀ j, j < i → G j = false) → decide (0 ≤ ixS G i k) = anyB G n
  | 0, i, h, hj => by
    have : anyB G n = false := by
      rw [Bool.eq_false_iff]
      intro hc
      obtain ⟨j, h1, h2⟩ := anyB_iff.1 hc
      rw [hj j (by omega)] at h2; cases h2
    rw [this]; rfl
  | k + 1, i, h, hj => by
    unfold ixS
    by_cases hg : G i = true
    · rw [if_pos hg, decide_eq_true (by omega)]
      exact (anyB_iff.2 ⟨i, by omega, hg⟩).symm
    · rw [if_neg hg]
      exact ixS_any k (i + 1) (by omega) fun j hj2 => by
        by_cases e : j = i
        · subst e; exact Bool.eq_false_iff.2 hg
        · exact hj j (by omega)
def vflS (g : Nat → List AV) (i : Nat) : Bool := whF (gx g 0 i) (gb g 1 i) || whF (gx g 2 i) (gb g 3 i)
def c220 : Con
  | [.ro n 4 g, .fn 193 []] => some ([vecs n g, n ≤ 1000], i64 (ixS (vflS g) 0 n))
  | _ => none
theorem vc220 (n : Nat) (X Y : Nat → Int) (E F : Nat → Bool) (hX : ∀ i, i < n → inR (X i) ∧ inR (Y i)) (hn : n ≤ 1000) : fnVC Tryz.prog [(193, c193)] [] Tryz.f220 [.ro n 4 fun i => [i64 (X i), bo (E i), i64 (Y i), bo (F i)], .fn 193 []] (· = i64 (ixS (fun i => whF (X i) (E i) || whF (Y i) (F i)) 0 n)) := by
  refine fnVC_go (rs := [.tmp 4]) rfl rfl ?_
  simp only [go_sem]
  refine loopC_go (fun (i : Nat) => i ≤ n ∧ ixS (fun i => whF (X i) (E i) || whF (Y i) (F i)) 0 n = ixS (fun i => whF (X i) (E i) || whF (Y i) (F i)) i (n - i)) (fun i => n - i) (fun i => [(8, i64 i)]) (fun _ => []) [] [9, 10, 5, 11, 12, 13, 14, 15, 16, 17, 4, 18, 8] 0 (by kernel_rfl) ?_ ⟨Nat.zero_le _, rfl⟩ ?_ ?_
  · intro x _; simp [goodNames]
  · simp only [go_sem]
  · intro i hi
    simp only [go_sem, c193]
    generalize hG : (fun i => whF (X i) (E i) || whF (Y i) (F i)) = G at *
    have hGi : G i = (whF (X i) (E i) || whF (Y i) (F i)) := by rw [← hG]
    rw [← hGi]
    refine ⟨fun h => ⟨by omega, h, fun z hz => ⟨(hX i (by omega)).1, (hX i (by omega)).2, fun hz1 => ?_, fun hz1 z2 hz2 => ⟨i + 1, ⟨by omega, ?_⟩, by omega, ?_⟩⟩⟩, fun h => ?_⟩
    · rw [hi.2, show n - i = (n - i - 1) + 1 by omega]
      unfold ixS
      rw [if_pos (by rw [← hz]; exact hz1)]
    · rw [hi.2, show n - i = (n - i - 1) + 1 by omega]
      conv => lhs; unfold ixS
      rw [if_neg (by rw [← hz, hz1]; decide), show n - (i + 1) = n - i - 1 by omega]
    · rw [hz2, wrap_in (by unfold inR; omega)]; rfl
    · rw [hi.2, show n - i = 0 by omega]; rfl
theorem con220 : ConOK Tryz.prog 220 c220 := ConOK.go (G := [(193, c193)]) (H := []) (.cons con193 .nil) Tryz.func220 fun l ob r hc hob => by
  unfold c220 at hc
  split at hc
  · rename_i n g
    cases hc
    have hs : vecs n g := hob _ (by simp)
    refine ⟨[.ro n 4 fun i => [i64 (gx g 0 i), bo (gb g 1 i), i64 (gx g 2 i), bo (gb g 3 i)], .fn 193 []], fun w I vs h => ?_, by kernel_rfl, vc220 n _ _ _ _ (fun i hi => (hs i hi).2) (hob _ (by simp))⟩
    obtain ⟨x, xs, rfl, h1, h2⟩ := h.inv
    exact .cons (ro_alike (fun i hi => (hs i hi).1) h1) h2
  · cases hc
def c192 : Con
  | [.ro n 4 g, .fn 193 []] => some ([vecs n g, n ≤ 1000], bo (vfS n g))
  | _ => none
theorem con192 : ConOK Tryz.prog 192 c192 := ConOK.of (G := [(220, c220)]) (H := []) (.cons con220 .nil) Tryz.func192 fun l ob r hc hob => by
  unfold c192 at hc
  split at hc
  · rename_i n g
    cases hc
    have h_0 : vecs n g := hob _ (by simp)
    have h_1 : n ≤ 1000 := hob _ (by simp)
    refine ⟨by kernel_rfl, fnVC_go (rs := [.tmp 4]) rfl rfl ?_⟩
    simp only [go_sem, c220]
    simp only [forall_eq]
    exact ⟨h_0, h_1, ixS_any n 0 (by omega) fun j hj => by omega⟩
  · cases hc
def c124 : Con
  | [.ro n 4 g] => some ([vecs n g, n ≤ 1000], bo (vfS n g))
  | _ => none
theorem con124 : ConOK Tryz.prog 124 c124 := ConOK.of (G := [(192, c192)]) (H := []) (.cons con192 .nil) Tryz.func124 fun l ob r hc hob => by
  unfold c124 at hc
  split at hc
  · rename_i n g
    cases hc
    have h_0 : vecs n g := hob _ (by simp)
    have h_1 : n ≤ 1000 := hob _ (by simp)
    refine ⟨by kernel_rfl, fnVC_go (rs := [.tmp 2]) rfl rfl ?_⟩
    simp only [go_sem, c192]
    simp only [forall_eq]
    exact ⟨h_0, h_1, trivial⟩
  · cases hc
theorem vecs1 {a b : Int} {e f : Bool} {g : Nat → List AV} (h0 : g 0 = [i64 a, bo e, i64 b, bo f]) (ha : inR a) (hb : inR b) : vecs 1 g := by
  intro i hi
  have : i = 0 := by omega
  subst this
  simp only [gx, gb, h0, gi_0, gib_1, gi_2, gib_3]; exact ⟨trivial, ha, hb⟩
theorem vf1 {a b : Int} {e f : Bool} {g : Nat → List AV} (h0 : g 0 = [i64 a, bo e, i64 b, bo f]) : vfS 1 g = (whF a e || whF b f) := by
  simp only [vfS, anyB, gx, gb, h0, gi_0, gib_1, gi_2, gib_3, Bool.false_or]
/-- A direction, if there is one. -/
def unB (x y : Int) : Nb × Nb := if ab x < 16777216 ∧ ab y < 16777216 then ((x * 16777216, false), (y * 16777216, false)) else ((x, false), (y, false))
def unS (x : Int) (e : Bool) (y : Int) (f : Bool) : Bool × Nb × Nb :=
  if whF x e = true ∨ whF y f = true then (false, (0, false), (0, false))
  else if (nHyp (unB x y).1 (unB x y).2).2 = true ∨ (nHyp (unB x y).1 (unB x y).2).1 = 0 then (false, (0, false), (0, false))
  else (true, nDiv (unB x y).1 (nHyp (unB x y).1 (unB x y).2), nDiv (unB x y).2 (nHyp (unB x y).1 (unB x y).2))
theorem wh_split {v : Int} {f : Bool} (h : whF v f = false) : v ≠ -9223372036854775808 ∧ f = false := by
  unfold whF at h
  rw [Bool.or_eq_false_iff] at h
  exact ⟨of_decide_eq_false h.1, h.2⟩
theorem tupv {a b c d a' b' c' d' : AV} {p p' : Bool} (h1 : a = a') (h2 : b = b') (h3 : c = c') (h4 : d = d') (h5 : p = p') : AV.tup [.agg [a, b, c, d], bo p] = .tup [.agg [a', b', c', d'], bo p'] := by rw [h1, h2, h3, h4, h5]
theorem unS_none {x y : Int} {e f : Bool} (h : whF x e = true ∨ whF y f = true) : unS x e y f = (false, (0, false), (0, false)) := by unfold unS; rw [if_pos h]
theorem unS_nul {x y : Int} {e f : Bool} {a b : Nb} (h : ¬ (whF x e = true ∨ whF y f = true)) (hb : unB x y = (a, b)) (h2 : (nHyp a b).2 = true ∨ (nHyp a b).1 = 0) : unS x e y f = (false, (0, false), (0, false)) := by unfold unS; rw [if_neg h, hb, if_pos h2]
theorem unS_some {x y : Int} {e f : Bool} {a b : Nb} (h : ¬ (whF x e = true ∨ whF y f = true)) (hb : unB x y = (a, b)) (h2 : ¬ ((nHyp a b).2 = true ∨ (nHyp a b).1 = 0)) : unS x e y f = (true, nDiv a (nHyp a b), nDiv b (nHyp a b)) := by unfold unS; rw [if_neg h, hb, if_neg h2]
def c165 : Con
  | [.agg [.v (.int .i64 x), .v (.bool e), .v (.int .i64 y), .v (.bool f)]] => some ([inR x, inR y], .tup [ve (unS x e y f).2.1 (unS x e y f).2.2, bo (unS x e y f).1])
  | _ => none
theorem con165 : ConOK Tryz.prog 165 c165 := ConOK.of (G := [(124, c124), (161, c161), (168, c168)]) (H := [(8, ⟨[(9, .slot 2)], []⟩)]) (.cons con124 (.cons con161 (.cons con168 .nil))) Tryz.func165 fun l ob r hc hob => by
  unfold c165 at hc
  split at hc
  · rename_i x e y f
    cases hc
    have h_0 : inR x := hob _ (by simp)
    have h_1 : inR y := hob _ (by simp)
    refine ⟨by kernel_rfl, fnVC_go (rs := [.cell 2 28, .tmp 3]) rfl rfl ?_⟩
    simp only [go_sem, c124, c161, c168]
    intro z hz
    refine ⟨vecs1 rfl h_0 h_1, fun ht => ?_, fun ht z1 hz1 z2 hz2 z3 hz3 => ?_⟩
    · rw [hz, vf1 rfl] at ht
      have ht : whF x e = true ∨ whF y f = true := by simpa using ht
      rw [unS_none ht]
    · rw [hz, vf1 rfl] at ht
      have ht2 : whF x e = false ∧ whF y f = false := by simpa using ht
      have ht : ¬ (whF x e = true ∨ whF y f = true) := by rw [ht2.1, ht2.2]; simp
      obtain ⟨hx, rfl⟩ := wh_split ht2.1
      obtain ⟨hy, rfl⟩ := wh_split ht2.2
      have hm : z3 < 16777216 ↔ ab x < 16777216 ∧ ab y < 16777216 := by
        rw [hz3, hz1, hz2, wrap_in (by unfold inR at *; omega), wrap_in (by unfold inR at *; omega)]
        unfold ab
        split <;> split <;> omega
      refine ⟨fun hs => ?_, fun hs => ?_⟩
      · have hs := hm.1 hs
        have hxb : -16777216 < x ∧ x < 16777216 := by unfold ab at hs; have := hs.1; split at this <;> omega
        have hyb : -16777216 < y ∧ y < 16777216 := by unfold ab at hs; have := hs.2; split at this <;> omega
        have hb : unB x y = ((x * 16777216, false), (y * 16777216, false)) := by unfold unB; rw [if_pos hs]
        rw [wrap_in (x := x * 16777216) (by unfold inR; omega), wrap_in (x := y * 16777216) (by unfold inR; omega)]
        simp only [forall_eq]
        refine ⟨by unfold inR; omega, by unfold inR; omega, fun h => ?_, fun h => ⟨by unfold inR; omega, rg_inR nHyp_rg, by unfold inR; omega, rg_inR nHyp_rg, ?_⟩⟩
        · rw [unS_nul ht hb (by simpa using h)]
        · rw [unS_some ht hb (by simpa using h)]
          rfl
      · have hs : ¬ (ab x < 16777216 ∧ ab y < 16777216) := fun h => hs (hm.2 h)
        have hb : unB x y = ((x, false), (y, false)) := by unfold unB; rw [if_neg hs]
        simp only [forall_eq]
        refine ⟨h_0, h_1, fun h => ?_, fun h => ⟨h_0, rg_inR nHyp_rg, h_1, rg_inR nHyp_rg, ?_⟩⟩
        · rw [unS_nul ht hb (by simpa using h)]
        · rw [unS_some ht hb (by simpa using h)]
          rfl
  · cases hc
theorem unS_rg {x y : Int} {e f : Bool} : rg (unS x e y f).2.1.1 ∧ rg (unS x e y f).2.2.1 := by
  have z : rg 0 := by unfold rg; omega
  unfold unS
  split
  · exact ⟨z, z⟩
  · split
    · exact ⟨z, z⟩
    · exact ⟨nDiv_rg, nDiv_rg⟩
/-- The normal of an edge. -/
def noS (a b c d : Int) : Bool × Nb × Nb := unS (nInt (d - b)).1 (nInt (d - b)).2 (nInt (-(c - a))).1 (nInt (-(c - a))).2
def c173 : Con
  | [.agg [.v (.int .i64 a), .v (.int .i64 b)], .agg [.v (.int .i64 c), .v (.int .i64 d)]] => some ([validS a b = true, validS c d = true], ve (noS a b c d).2.1 (noS a b c d).2.2)
  | _ => none
theorem con173 : ConOK Tryz.prog 173 c173 := ConOK.of (G := [(154, c154), (176, c176), (165, c165)]) (H := []) (.cons con154 (.cons con176 (.cons con165 .nil))) Tryz.func173 fun l ob r hc hob => by
  unfold c173 at hc
  split at hc
  · rename_i a b c d
    cases hc
    have h_0 : validS a b = true := hob _ (by simp)
    have h_1 : validS c d = true := hob _ (by simp)
    refine ⟨by kernel_rfl, fnVC_go (rs := [.cell 4 28]) rfl rfl ?_⟩
    simp only [go_sem, c154, c176, c165]
    have v1 := validS_iff.1 h_0
    have v2 := validS_iff.1 h_1
    simp only [forall_eq]
    rw [wrap_in (x := c - a) (by unfold inR; omega), wrap_in (x := d - b) (by unfold inR; omega), wrap_in (x := 0 - (c - a)) (by unfold inR; omega), show (0 : Int) - (c - a) = -(c - a) by omega]
    exact ⟨by unfold inR; omega, by unfold inR; omega, rg_inR nInt_rg, rg_inR nInt_rg, rfl⟩
  · cases hc
/-! ### Sums of vectors -/
/-- The sum of one component. -/
def suV (n : Nat) (g : Nat → List AV) (k : Nat) : Nb := (ftV (suS (fun i => whV (gx g k i)) n), ftF (suS (fun i => whV (gx g k i)) n) || anyB (fun i => whF (gx g k i) (gb g (k + 1) i)) n)
theorem suS_congr {X Y : Nat → Int} : ∀ {n : Nat}, (∀ i, i < n → X i = Y i) → suS X n = suS Y n
  | 0, _ => rfl
  | n + 1, h => by unfold suS; rw [suS_congr (n := n) fun i hi => h i (by omega), h n (by omega)]
theorem anyB_congr {X Y : Nat → Bool} : ∀ {n : Nat}, (∀ i, i < n → X i = Y i) → anyB X n = anyB Y n
  | 0, _ => rfl
  | n + 1, h => by unfold anyB; rw [anyB_congr (n := n) fun i hi => h i (by omega), h n (by omega)]
def upB (i : Nat) (Z : Nat → Bool) (j : Nat) : Bool := if j < i then Z j else false
theorem upB_zero {Z : Nat → Bool} {j : Nat} : upB 0 Z j = false := by unfold upB; rw [if_neg (by omega)]
theorem upB_self {i : Nat} {Z : Nat → Bool} : upB (i + 1) Z i = Z i := by unfold upB; rw [if_pos (by omega)]
theorem upB_lt {i j : Nat} {Z : Nat → Bool} (h : j < i) : upB i Z j = Z j := by unfold upB; rw [if_pos h]
theorem upB_ne {i j : Nat} {Z : Nat → Bool} (h : j ≠ i) : upB (i + 1) Z j = upB i Z j := by
  unfold upB
  by_cases e : j < i
  · rw [if_pos e, if_pos (by omega)]
  · rw [if_neg e, if_neg (by omega)]
/-- The sum of one component. -/
def su1 (n : Nat) (X : Nat → Int) (E : Nat → Bool) : Nb := (ftV (suS (fun i => whV (X i)) n), ftF (suS (fun i => whV (X i)) n) || anyB (fun i => whF (X i) (E i)) n)
theorem su1_rg {n : Nat} {X : Nat → Int} {E : Nat → Bool} : rg (su1 n X E).1 := ftV_rg _
theorem wvS_up {n : Nat} {X : Nat → Int} {E : Nat → Bool} {g : Nat → List AV} (h : ∀ j, j < n → g j = [i64 (X j), bo (E j)]) : suS (wvS g) n = suS (fun i => whV (X i)) n ∧ wfS n g = anyB (fun i => whF (X i) (E i)) n :=
  ⟨suS_congr fun i hi => by simp only [wvS, gx, h i hi, gi_0], anyB_congr fun i hi => by simp only [gx, gb, h i hi, gi_0, gib_1]⟩
theorem nums_up {n : Nat} {X : Nat → Int} {E : Nat → Bool} {g : Nat → List AV} (h : ∀ j, j < n → g j = [i64 (X j), bo (E j)]) (hX : ∀ j, j < n → inR (X j)) : nums n g := fun i hi => by
  simp only [gx, gb, h i hi, gi_0, gib_1]; exact ⟨trivial, hX i hi⟩
def c130 : Con
  | [.ro n 4 g] => some ([vecs n g, n ≤ 1000], ve (su1 n (gx g 0) (gb g 1)) (su1 n (gx g 2) (gb g 3)))
  | _ => none
theorem vc130 (n : Nat) (X Y : Nat → Int) (E F : Nat → Bool) (hX : ∀ i, i < n → inR (X i) ∧ inR (Y i)) (hn : n ≤ 1000) : fnVC Tryz.prog [(201, c201)] [(5, ⟨[(9, .slot 3), (11, .slot 4)], [(7, [.slot 3])]⟩)] Tryz.f130 [.ro n 4 fun i => [i64 (X i), bo (E i), i64 (Y i), bo (F i)]] (· = ve (su1 n X E) (su1 n Y F)) := by
  refine fnVC_go (rs := [.cell 2 28]) rfl rfl ?_
  simp only [go_sem]
  have hb : ((bytesT Tryz.prog 26 : Nat) : Int) * (n : Int) ≤ 281474976710656 := by rw [show bytesT Tryz.prog 26 = 16 by kernel_rfl]; omega
  refine ⟨by omega, by omega, hb, by omega, by omega, hb, ?_⟩
  refine loopC_go (fun (i : Nat) => i ≤ n) (fun i => n - i) (fun i => [(15, i64 i)]) (fun i => [(6, famN n 2 26 (fun j => [i64 (uptN i Y j), bo (upB i F j)]) none), (3, famN n 2 26 (fun j => [i64 (uptN i X j), bo (upB i E j)]) none)]) [0] [16, 17, 18, 19, 6, 5, 20, 21, 22, 23, 24, 25, 26, 27, 28, 29, 30, 15] 0 (by kernel_rfl) ?_ (Nat.zero_le _) ?_ ?_
  · intro x _; simp [goodNames, asg]
  · simp only [go_sem, uptN_zero, upB_zero, implies_true]
  · intro i hi
    simp only [go_sem, c201]
    have hw : IntKind.i64.wrap ((i : Int) + 1) = ((i + 1 : Nat) : Int) := by rw [wrap_in (by unfold inR; omega)]; rfl
    refine ⟨fun hin => ⟨by omega, hin, by omega, hin, by omega, by omega, hin, by omega, fun z hz => ⟨i + 1, by omega, by omega, by rw [hz, hw], fun j hj => ?_, fun j hj => ?_⟩⟩, fun hin => ?_⟩
    · by_cases e : j = i
      · subst e
        rw [if_pos rfl]
        simp only [go_sem, uptN_self, upB_self]
      · rw [if_neg e]
        have h1 : ∀ Z, uptN (i + 1) Z j = uptN i Z j := fun Z => uptN_ne e
        have h2 : ∀ Z, upB (i + 1) Z j = upB i Z j := fun Z => upB_ne e
        simp only [go_sem, h1, h2]
    · by_cases e : j = i
      · subst e
        rw [if_pos rfl]
        simp only [go_sem, uptN_self, upB_self]
      · rw [if_neg e]
        have h1 : ∀ Z, uptN (i + 1) Z j = uptN i Z j := fun Z => uptN_ne e
        have h2 : ∀ Z, upB (i + 1) Z j = upB i Z j := fun Z => upB_ne e
        simp only [go_sem, h1, h2]
    · have e : i = n := by omega
      subst e
      have hx : ∀ j, j < i → (fun j => [i64 (uptN i X j), bo (upB i E j)]) j = [i64 (X j), bo (E j)] := fun j hj => by dsimp only; rw [uptN_lt hj, upB_lt hj]
      have hy : ∀ j, j < i → (fun j => [i64 (uptN i Y j), bo (upB i F j)]) j = [i64 (Y j), bo (F j)] := fun j hj => by dsimp only; rw [uptN_lt hj, upB_lt hj]
      obtain ⟨e1, e2⟩ := wvS_up hx
      obtain ⟨e3, e4⟩ := wvS_up hy
      simp only [forall_eq, e1, e2, e3, e4]
      exact ⟨nums_up hx fun j hj => (hX j hj).1, hn, nums_up hy fun j hj => (hX j hj).2, hn, rfl⟩
theorem con130 : ConOK Tryz.prog 130 c130 := ConOK.go (G := [(201, c201)]) (H := [(5, ⟨[(9, .slot 3), (11, .slot 4)], [(7, [.slot 3])]⟩)]) (.cons con201 .nil) Tryz.func130 fun l ob r hc hob => by
  unfold c130 at hc
  split at hc
  · rename_i n g
    cases hc
    have hs : vecs n g := hob _ (by simp)
    exact ⟨[.ro n 4 fun i => [i64 (gx g 0 i), bo (gb g 1 i), i64 (gx g 2 i), bo (gb g 3 i)]], fun w I vs h => Rs_one (fun v => ro_alike fun i hi => (hs i hi).1) h, by kernel_rfl, vc130 n _ _ _ _ (fun i hi => (hs i hi).2) (hob _ (by simp))⟩
  · cases hc
theorem vecs2 {a b c d : Int} {e f p q : Bool} {g : Nat → List AV} (h0 : g 0 = [i64 a, bo e, i64 b, bo f]) (h1 : g 1 = [i64 c, bo p, i64 d, bo q]) (ha : inR a) (hb : inR b) (hc : inR c) (hd : inR d) : vecs 2 g := by
  intro i hi
  have : i = 0 ∨ i = 1 := by omega
  rcases this with rfl | rfl
  · simp only [gx, gb, h0, gi_0, gib_1, gi_2, gib_3]; exact ⟨trivial, ha, hb⟩
  · simp only [gx, gb, h1, gi_0, gib_1, gi_2, gib_3]; exact ⟨trivial, hc, hd⟩
theorem nb_eq {a b : Nb} (h1 : a.1 = b.1) (h2 : a.2 = b.2) : a = b := Prod.ext h1 h2
theorem su2x {a b c d : Int} {e f p q : Bool} {g : Nat → List AV} (h0 : g 0 = [i64 a, bo e, i64 b, bo f]) (h1 : g 1 = [i64 c, bo p, i64 d, bo q]) : su1 2 (gx g 0) (gb g 1) = nAdd (a, e) (c, p) := by
  unfold su1 nAdd
  simp only [suS, anyB, gx, gb, h0, h1, gi_0, gib_1, Bool.false_or, Int.zero_add]
theorem su2y {a b c d : Int} {e f p q : Bool} {g : Nat → List AV} (h0 : g 0 = [i64 a, bo e, i64 b, bo f]) (h1 : g 1 = [i64 c, bo p, i64 d, bo q]) : su1 2 (gx g 2) (gb g 3) = nAdd (b, f) (d, q) := by
  unfold su1 nAdd
  simp only [suS, anyB, gx, gb, h0, h1, gi_2, gib_3, Bool.false_or, Int.zero_add]
end Go.Ax
end

section
/-
  The laws of boxes: what the functions hand back.
-/
set_option linter.unusedVariables false
set_option linter.unusedSimpArgs false
set_option maxHeartbeats 2000000
set_option maxRecDepth 100000
namespace Go.Ax
open Go.Proofs
def joinT (a b c d e f g h : Int) (k : Nat) : Int := if checkBoxS a b c d = 0 ∧ checkBoxS e f g h = 0 then (match k with
  | 0 => min a e
  | 1 => min b f
  | 2 => max c g
  | _ => max d h) else 0
theorem rows_0 {a b c d : AV} {l : List AV} : rowsOf 4 (a :: b :: c :: d :: l) 0 = [a, b, c, d] := (rfl)
theorem rows_1 {a b c d e f g h : AV} {l : List AV} : rowsOf 4 (a :: b :: c :: d :: e :: f :: g :: h :: l) 1 = [e, f, g, h] := (rfl)
theorem boxes_2 {a b c d e f g h : Int} : boxes 2 (rowsOf 4 [i64 a, i64 b, i64 c, i64 d, i64 e, i64 f, i64 g, i64 h]) = ((inR a ∧ inR b ∧ inR c ∧ inR d) ∧ inR e ∧ inR f ∧ inR g ∧ inR h) := propext ⟨fun H => by
    have h0 := (H 0 (by omega)).2
    have h1 := (H 1 (by omega)).2
    simp only [gx, rows_0, rows_1, gi_0, gi_1, gi_2, gi_3] at h0 h1
    exact ⟨h0, h1⟩, fun ⟨h0, h1⟩ i hi => by
    have : i = 0 ∨ i = 1 := by omega
    rcases this with rfl | rfl
    · simp only [gx, rows_0, gi_0, gi_1, gi_2, gi_3]; exact ⟨trivial, h0⟩
    · simp only [gx, rows_1, gi_0, gi_1, gi_2, gi_3]; exact ⟨trivial, h1⟩⟩
theorem okB_2 {A B C D : Nat → Int} : okB 2 A B C D ↔ checkBoxS (A 0) (B 0) (C 0) (D 0) = 0 ∧ checkBoxS (A 1) (B 1) (C 1) (D 1) = 0 :=
  ⟨fun h => ⟨h 0 (by omega), h 1 (by omega)⟩, fun ⟨h0, h1⟩ i hi => by
    have : i = 0 ∨ i = 1 := by omega
    rcases this with rfl | rfl <;> assumption⟩
theorem join_2 {a b c d e f g h : Int} {k : Nat} (hk : k < 4) : joinS 2 (gx (rowsOf 4 [i64 a, i64 b, i64 c, i64 d, i64 e, i64 f, i64 g, i64 h]) 0) (gx (rowsOf 4 [i64 a, i64 b, i64 c, i64 d, i64 e, i64 f, i64 g, i64 h]) 1) (gx (rowsOf 4 [i64 a, i64 b, i64 c, i64 d, i64 e, i64 f, i64 g, i64 h]) 2) (gx (rowsOf 4 [i64 a, i64 b, i64 c, i64 d, i64 e, i64 f, i64 g, i64 h]) 3) k = joinT a b c d e f g h k := by
  unfold joinS joinT
  simp only [okB_2, mnS, mxS, gx, rows_0, rows_1, gi_0, gi_1, gi_2, gi_3]
  have : k = 0 ∨ k = 1 ∨ k = 2 ∨ k = 3 := by omega
  rcases this with rfl | rfl | rfl | rfl <;> simp
attribute [go_sem] boxes_2 join_2 Nat.lt_irrefl
def c14 : Con
  | [] => some ([], bo true)
  | _ => none
theorem con14 : ConOK Tryz.prog 14 c14 := ConOK.of (G := [(48, c48), (56, c56)]) (H := []) (.cons con48 (.cons con56 .nil)) Tryz.func14 fun l ob r hc hob => by
  unfold c14 at hc
  split at hc
  · cases hc
    refine ⟨by kernel_rfl, fnVC_go (rs := [.tmp 0]) rfl rfl ?_⟩
    simp only [go_sem, c48, c56]
    intro z hz
    have e : z = 1 := by rw [hz]; decide
    subst e
    refine ⟨?_, ?_, ?_, ?_, ?_, ?_, fun _ => ?_, fun _ => ?_, fun _ => ?_, fun _ => ?_, ?_, ?_, ?_, ?_, ?_⟩ <;> first | (unfold inR; omega) | decide
  · cases hc
theorem tmod_5001 (x : Int) : -5000 ≤ x.tmod 5001 ∧ x.tmod 5001 ≤ 5000 := by
  have h1 := Int.tmod_lt_of_pos x (b := 5001) (by omega)
  have h2 := Int.tmod_lt_of_pos (-x) (b := 5001) (by omega)
  rw [Int.neg_tmod] at h2
  omega
/-- A box of numbers near zero. -/
def near (a b c d : Int) : Prop := -5000 ≤ a ∧ a ≤ c ∧ c ≤ 5000 ∧ -5000 ≤ b ∧ b ≤ d ∧ d ≤ 5000
theorem near_box {x0 x1 x2 x3 a b c d : Int} (ha : a = min (x0.tmod 5001) (x2.tmod 5001)) (hb : b = min (x1.tmod 5001) (x3.tmod 5001)) (hc : c = max (x0.tmod 5001) (x2.tmod 5001)) (hd : d = max (x1.tmod 5001) (x3.tmod 5001)) : near a b c d := by
  have h0 := tmod_5001 x0
  have h1 := tmod_5001 x1
  have h2 := tmod_5001 x2
  have h3 := tmod_5001 x3
  unfold near
  omega
theorem near_check {a b c d : Int} (h : near a b c d) : checkBoxS a b c d = 0 := checkBoxS_iff.2 (by unfold near at h; omega)
theorem near_inR {a b c d : Int} (h : near a b c d) : inR a ∧ inR b ∧ inR c ∧ inR d := by unfold near at h; unfold inR; omega
theorem joinT_0 {a b c d e f g h : Int} (h1 : checkBoxS a b c d = 0) (h2 : checkBoxS e f g h = 0) : joinT a b c d e f g h 0 = min a e := by
  simp only [joinT, h1, h2, and_self, if_true]
theorem joinT_1 {a b c d e f g h : Int} (h1 : checkBoxS a b c d = 0) (h2 : checkBoxS e f g h = 0) : joinT a b c d e f g h 1 = min b f := by
  simp only [joinT, h1, h2, and_self, if_true]
theorem joinT_2 {a b c d e f g h : Int} (h1 : checkBoxS a b c d = 0) (h2 : checkBoxS e f g h = 0) : joinT a b c d e f g h 2 = max c g := by
  simp only [joinT, h1, h2, and_self, if_true]
theorem joinT_3 {a b c d e f g h : Int} (h1 : checkBoxS a b c d = 0) (h2 : checkBoxS e f g h = 0) : joinT a b c d e f g h 3 = max d h := by
  simp only [joinT, h1, h2, and_self, if_true]
theorem modS_in {x : Int} : 0 ≤ modS x 100001 ∧ modS x 100001 ≤ 100000 := by
  have h1 := Int.tmod_lt_of_pos x (b := 100001) (by omega)
  have h2 := Int.tmod_lt_of_pos (-x) (b := 100001) (by omega)
  rw [Int.neg_tmod] at h2
  unfold modS
  split <;> omega
theorem grow_in {a b c d n : Int} (h : checkBoxS a b c d = 0) (hn : 0 ≤ n) (ha : -2097152 ≤ a - n) (hb : -2097152 ≤ b - n) (hc : c + n ≤ 2097152) (hd : d + n ≤ 2097152) : growS a b c d n 0 = a - n ∧ growS a b c d n 1 = b - n ∧ growS a b c d n 2 = c + n ∧ growS a b c d n 3 = d + n := by
  have h' := checkBoxS_iff.1 h
  have hg : growN n = n := by unfold growN; omega
  simp only [growS, h, if_true, hg]
  omega
end Go.Ax
end

section
/-
  The iterator over a polygon's edges.
-/
set_option linter.unusedVariables false
set_option linter.unusedSimpArgs false
set_option maxHeartbeats 1000000
set_option maxRecDepth 100000
namespace Go.Ax
open Go.Proofs

/-- The number of the next corner. -/
def nxt (n i : Nat) : Nat := if i + 1 < n then i + 1 else 0
theorem nxt_lt {n i : Nat} (h : i < n) : nxt n i < n := by unfold nxt; split <;> omega
/-- An edge. -/
def edgeE (n : Nat) (g : Nat → List AV) (i : Nat) : List AV := [.agg [i64 (gx g 0 i), i64 (gx g 1 i)], .agg [i64 (gx g 0 (nxt n i)), i64 (gx g 1 (nxt n i))]]
def c187 : Con
  | [.rop [.ro n 2 g]] => some ([spots n g, n ≤ 9223372036854775806], .ro n 2 (edgeE n g))
  | _ => none

/-- At the head of the loop. -/
structure At187 (I : Nat → Prop) (w : World) (J : Nat → World → Prop) (l n : Nat) (v1 x : Value) (i : Nat) (a : Act) (W : World) : Prop where
  sz : a.tmps.size = 38
  de : a.defers = []
  t0 : a.tmps.getD 0 undef = .func (.yield l) #[] #[]
  t1 : a.tmps.getD 1 undef = v1
  t3 : a.tmps.getD 3 undef = .int .i64 (IntKind.i64.wrap (n - 1))
  t12 : a.tmps.getD 12 undef = x
  t13 : a.tmps.getD 13 undef = .int .i64 n
  t14 : a.tmps.getD 14 undef = .int .i64 i
  le : i ≤ n
  j : J i W
  same : Same I w W

/-- The corners ars plain pairs. -/
def sg (g : Nat → List AV) : Nat → List AV := fun i => [i64 (gx g 0 i), i64 (gx g 1 i)]
theorem sg_eq {g : Nat → List AV} : sg g = fun i => [i64 (gx g 0 i), i64 (gx g 1 i)] := (rfl)

theorem seq187 : SeqOK Tryz.prog 187 c187 := by
  intro es ob N k sq hc hob
  unfold c187 at hc
  split at hc
  case h_2 => cases hc
  rename_i n g
  simp only [Option.some.injEq, Prod.mk.injEq, AV.ro.injEq] at hc
  obtain ⟨rfl, rfl, rfl, rfl⟩ := hc
  have hsp : spots n g := hob _ (by simp)
  have hn : n ≤ 9223372036854775806 := hob _ (by simp)
  intro I w vs nn l J Jx hI hRs hJ hJx h0 hy
  obtain ⟨v1, rest, rfl, hv1, hrest⟩ := hRs.inv
  have : rest = [] := by have := hrest.1; simpa using this
  subst this
  cases hv1 with
  | rop b o hib hex hr =>
  obtain ⟨x, hx⟩ := hex 0 (by simp)
  have hx : Has w b o x := hx
  have hib : I b := hib
  have hxr : R w (.ext I) (.ro n 2 (sg g)) x := ro_alike (fun i hi => (hsp i hi).1) (hr 0 _ x rfl hx)
  have hvx : R w (.ext I) (.rop [.v x]) (.pointer (some ⟨b, o, none⟩)) := rop1 hib hx .v
  have hvr : R w (.ext I) (.rop [.ro n 2 (sg g)]) (.pointer (some ⟨b, o, none⟩)) := rop1 hib hx hxr
  refine ⟨callFunc_enter Tryz.func187 (by kernel_rfl) rfl, ?_⟩
  refine callsIn_of_wp_marks (F := Fence.wide) Tryz.func187 rfl trivial ?_
  have hm : Tryz.prog.follows .mixedOrders = true := by kernel_rfl
  rw [show Tryz.f187.ntmps = 38 from by kernel_rfl]
  generalize hes : (#[Value.func (.yield l) #[] #[]] ++ [Value.pointer (some ⟨b, o, none⟩)].toArray : Array Value) = es
  have hes2 : es.size = 2 := by rw [← hes]; rfl
  have hes0 : es[0]? = some (.func (.yield l) #[] #[]) := by rw [← hes]; rfl
  have hes1 : es[1]? = some (.pointer (some ⟨b, o, none⟩)) := by rw [← hes]; rfl
  generalize ha : (Act.mk (es ++ Array.replicate (38 - es.size) undef) []) = a
  have hsz : a.tmps.size = 38 := by rw [← ha]; exact start_size (by omega)
  have hde : a.defers = [] := by rw [← ha]
  have ht0 : a.tmps.getD 0 undef = .func (.yield l) #[] #[] := by rw [← ha]; exact start_get hes0
  have ht1 : a.tmps.getD 1 undef = .pointer (some ⟨b, o, none⟩) := by rw [← ha]; exact start_get hes1
  clear ha hes hes0 hes1 hes2
  have keepR : ∀ {av : AV} {v : Value} {W : World}, R w (.ext I) av v → Same I w W → R W (.ext I) av v := fun h hs => h.mono (.refl _) hs
  have ltI : ∀ {W : World}, Same I w W → ∀ b, I b → b < W.heap.size := fun {W} hs b hb => by
    have h1 := hs b hb
    have h2 := hI b hb
    rw [Array.getElem?_eq_getElem h2] at h1
    exact (Array.getElem?_eq_some_iff.1 h1).1
  -- region 0
  refine wpIn_seq (pieceI (G := []) (H := []) .nil hm (l := [(1, .rop [.ro n 2 (sg g)])]) (W := [7, 8, 9, 10, 3]) (K := fun e s => match e with | .normal => slot s.t 3 = i64 (IntKind.i64.wrap (n - 1)) | _ => False) (by kernel_rfl) (by kernel_rfl) (by kernel_rfl) ?_ hI hsz ?_ ?_)
  · refine awp_go (K1 := fun e t _ => match e with | .normal => slot t 3 = i64 (IntKind.i64.wrap (n - 1)) | _ => False) ?_
    simp only [go_sem, List.range, List.range.loop]
    exact fun _ => trivial
  · intro p hp; simp only [List.mem_singleton] at hp; subst hp; dsimp only; rw [ht1]; exact hvr
  intro e s1 ρ1 a1 w1 k1 k2
  cases e with
  | exit j => exact k1.elim
  | ret => exact k1.elim
  | normal =>
  have bel1 : RowKit.Below w.heap.size w w1 := k2.rel.below
  have hs1 : Same I w w1 := Same.of_below bel1 hI
  have hj1 : J 0 w1 := hJ 0 w w1 h0 bel1
  have u0 : a1.tmps.getD 0 undef = .func (.yield l) #[] #[] := (k2.frame 0 (show ¬ (0 : Nat) ∈ [7, 8, 9, 10, 3] by decide)).trans ht0
  have u1 : a1.tmps.getD 1 undef = .pointer (some ⟨b, o, none⟩) := (k2.frame 1 (show ¬ (1 : Nat) ∈ [7, 8, 9, 10, 3] by decide)).trans ht1
  have u3 := k2.val k1
  have usz := k2.size
  have ude : a1.defers = [] := k2.defers.trans hde
  clear k1 k2 s1 ρ1 hsz hde ht0 ht1
  -- region 1
  refine wpIn_seq (region_split (G := []) (nt := 38) (s := ⟨[(1, .rop [.v x])] ++ anyS (List.range 38), [], 0⟩) (ds := ⟨[], (· ∈ [11, 12, 13, 14]), a1.tmps⟩) .nil 2 (by decide) (K := fun s => slot s.t 12 = .v x) (by kernel_rfl) (fun j hj => hj) ?_ (SR.anew (ltI hs1) (slots_R usz ?_) usz ude (fun _ _ => rfl)) ?_)
  · refine regP_go (K1 := fun t _ => slot t 12 = .v x) ?_
    simp only [go_sem, List.range, List.range.loop]
  · intro p hp; simp only [List.mem_singleton] at hp; subst hp; dsimp only; rw [u1]; exact keepR hvx hs1
  intro s2 ρ2 a2 w2 k1 k2
  have bel2 : RowKit.Below w1.heap.size w1 w2 := k2.rel.below
  have hs2 : Same I w w2 := hs1.trans (Same.of_below bel2 (ltI hs1))
  have hj2 : J 0 w2 := hJ 0 w1 w2 hj1 bel2
  have v0 := (k2.frame 0 (show ¬ (0 : Nat) ∈ [11, 12, 13, 14] by decide)).trans u0
  have v1 := (k2.frame 1 (show ¬ (1 : Nat) ∈ [11, 12, 13, 14] by decide)).trans u1
  have v3 := (k2.frame 3 (show ¬ (3 : Nat) ∈ [11, 12, 13, 14] by decide)).trans u3
  have v12 := k2.val k1
  have vsz := k2.size
  have vde : a2.defers = [] := k2.defers
  clear k1 k2 s2 ρ2 usz ude u0 u1 u3 bel1 bel2 hj1 hs1
  refine region_rest (G := []) (nt := 38) (s := ⟨[(12, .ro n 2 (sg g))] ++ anyS (List.range 38), [], 0⟩) (ds := ⟨[], (· ∈ [13, 14]), a2.tmps⟩) .nil 2 (by decide) (K := fun s => slot s.t 13 = i64 n ∧ slot s.t 14 = i64 0) (by kernel_rfl) (fun j hj => hj) ?_ (SR.anew (ltI hs2) (slots_R vsz ?_) vsz vde (fun _ _ => rfl)) ?_
  · refine regP_go (K1 := fun t _ => slot t 13 = i64 n ∧ slot t 14 = i64 0) ?_
    simp only [go_sem, List.range, List.range.loop]
  · intro p hp; simp only [List.mem_singleton] at hp; subst hp; dsimp only; rw [v12]; exact keepR hxr hs2
  intro s3 ρ3 a3 w3 k1 k2
  have bel3 : RowKit.Below w2.heap.size w2 w3 := k2.rel.below
  have hs3 : Same I w w3 := hs2.trans (Same.of_below bel3 (ltI hs2))
  have hAt0 : At187 I w J l n (.pointer (some ⟨b, o, none⟩)) x 0 a3 w3 :=
    ⟨k2.size, k2.defers, (k2.frame 0 (show ¬ (0 : Nat) ∈ [13, 14] by decide)).trans v0, (k2.frame 1 (show ¬ (1 : Nat) ∈ [13, 14] by decide)).trans v1, (k2.frame 3 (show ¬ (3 : Nat) ∈ [13, 14] by decide)).trans v3,
      (k2.frame 12 (show ¬ (12 : Nat) ∈ [13, 14] by decide)).trans v12, k2.val k1.1, k2.val k1.2, Nat.zero_le _, hJ 0 w2 w3 hj2 bel3, hs3⟩
  clear k1 k2 s3 ρ3 bel3 hs3 hj2 hs2 v0 v1 v3 v12 vsz vde
  refine wpIn_block (wpIn_loop_rounds (n + 1) ?_)
  obtain ⟨i, hAt, hlt⟩ : ∃ i, At187 I w J l n (.pointer (some ⟨b, o, none⟩)) x i a3 w3 ∧ n - i < n + 1 := ⟨0, hAt0, by omega⟩
  clear hAt0
  generalize n + 1 = fuel at hlt ⊢
  induction fuel generalizing i a3 w3 with
  | zero => omega
  | succ fuel ih =>
  rw [roundsIn_succ]
  -- the guard
  refine wpIn_seq (pieceI (G := []) (H := []) .nil hm (l := [(13, i64 n), (14, i64 i)]) (W := [15]) (K := fun e s => match e with | .normal => slot s.t 15 = bo (decide ((i : Int) < n)) | _ => False) (by kernel_rfl) (by kernel_rfl) (by kernel_rfl) ?_ (ltI hAt.same) hAt.sz ?_ ?_)
  · refine awp_go (K1 := fun e t _ => match e with | .normal => slot t 15 = bo (decide ((i : Int) < n)) | _ => False) ?_
    simp only [go_sem, List.range, List.range.loop]
  · intro p hp
    simp only [List.mem_cons, List.mem_singleton, List.not_mem_nil, or_false] at hp
    rcases hp with rfl | rfl
    · dsimp only; rw [hAt.t13]; exact .v
    · dsimp only; rw [hAt.t14]; exact .v
  intro e s1 ρ1 a1 w1 k1 k2
  cases e with
  | exit j => exact k1.elim
  | ret => exact k1.elim
  | normal =>
  have bel1 : RowKit.Below w3.heap.size w3 w1 := k2.rel.below
  have hs1 : Same I w w1 := hAt.same.trans (Same.of_below bel1 (ltI hAt.same))
  have hj1 : J i w1 := hJ i w3 w1 hAt.j bel1
  have v15 := k2.val k1
  have d1 : a1.defers = [] := k2.defers.trans hAt.de
  have z1 := k2.size
  have f1 : ∀ j, ¬ j ∈ [15] → a1.tmps.getD j undef = a3.tmps.getD j undef := k2.frame
  clear k1 k2 s1 ρ1
  refine wpIn_seq (wpIn_cond_split (t := decide ((i : Int) < n)) v15 ?_ ?_)
  case refine_2 =>
    intro hf
    have hin : i = n := by have := hAt.le; simp at hf; omega
    subst hin
    refine wpIn_exit ?_
    show LeavesInM Fence.wide nn Tryz.prog Tryz.f187 a1.tmps _ a1.defers .returning w1
    exact leave_nil d1 rfl fun v => ⟨⟨v, rfl⟩, .inl hj1⟩
  intro ht
  have hin : i < n := by simp at ht; omega
  refine wpIn_skip ?_
  have r0 : gx (sg g) 0 i = gx g 0 i := rfl
  obtain ⟨K1, hK1⟩ : ∃ K1 : Slots → Prop, K1 = fun t => slot t 32 = .v (.func (.yield l) #[] #[]) ∧ [slot t 33, slot t 34] = edgeE n g i := ⟨_, rfl⟩
  refine wpIn_seq (wpIn_block (piece3 (G := []) (H := []) .nil hm (k := 3) (K1 := K1) (l := [(0, .v (.func (.yield l) #[] #[])), (1, .rop [.ro n 2 (sg g)]), (3, i64 (IntKind.i64.wrap (n - 1))), (12, .ro n 2 (sg g)), (14, i64 i)]) (by decide) (by kernel_rfl) (by kernel_rfl) rfl ?_ (ltI hs1) z1 ?_ ?_))
  · show goC Tryz.prog [] [] (preK Tryz.prog [] _ 3 K1) _ [] _
    simp only [go_sem, List.range, List.range.loop, preK_normal, sg_eq]
    have hw : IntKind.i64.wrap ((n : Int) - 1) = n - 1 := wrap_in (by unfold inR; omega)
    subst hK1
    refine ⟨by omega, by omega, by omega, fun h z hz => ?_, fun h => ?_⟩
    · rw [hw] at h
      have e1 : IntKind.i64.wrap ((i : Int) + 1) = i + 1 := wrap_in (by unfold inR; omega)
      rw [e1] at hz
      have e2 : z.toNat = i + 1 := by omega
      have e3 : nxt n i = i + 1 := by unfold nxt; rw [if_pos (by omega)]
      refine ⟨by omega, by omega, ?_⟩
      simp only [slot_cons, Nat.reduceEqDiff, if_true, if_false, reduceIte, true_and, edgeE, e3, e2, gx]
    · rw [hw] at h
      have e3 : nxt n i = 0 := by unfold nxt; rw [if_neg (by omega)]
      simp only [slot_cons, Nat.reduceEqDiff, if_true, if_false, reduceIte, true_and, edgeE, e3, gx]
  · intro p hp
    simp only [List.mem_cons, List.mem_singleton, List.not_mem_nil, or_false] at hp
    rcases hp with rfl | rfl | rfl | rfl | rfl
    · dsimp only; rw [f1 0 (by decide), hAt.t0]; exact .v
    · dsimp only; rw [f1 1 (by decide), hAt.t1]; exact keepR hvr hs1
    · dsimp only; rw [f1 3 (by decide), hAt.t3]; exact .v
    · dsimp only; rw [f1 12 (by decide), hAt.t12]; exact keepR hxr hs1
    · dsimp only; rw [f1 14 (by decide), hAt.t14]; exact .v
  intro t' m' D' ρ' a2 w2 k1 k2
  subst hK1
  have bel2 : RowKit.Below w1.heap.size w1 w2 := k2.rel.below
  have hs2 : Same I w w2 := hs1.trans (Same.of_below bel2 (ltI hs1))
  have hj2 : J i w2 := hJ i w1 w2 hj1 bel2
  have v32 := k2.val k1.1
  have e33 : slot t' 33 = .agg [i64 (gx g 0 i), i64 (gx g 1 i)] := by have := k1.2; unfold edgeE at this; simpa using (List.cons.inj this).1
  have e34 : slot t' 34 = .agg [i64 (gx g 0 (nxt n i)), i64 (gx g 1 (nxt n i))] := by have := k1.2; unfold edgeE at this; simpa using (List.cons.inj (List.cons.inj this).2).1
  have hargs : Rs w2 (.ext I) (edgeE n g i) [a2.tmps.getD 33 undef, a2.tmps.getD 34 undef] := by
    have q33 := k2.slots 33
    have q34 := k2.slots 34
    rw [e33] at q33
    rw [e34] at q34
    exact .cons (plain_sound 3 rfl q33) (.cons (plain_sound 3 rfl q34) .nil)
  have d2 : a2.defers = [] := k2.defers.trans d1
  have z2 := k2.size
  have f2 := k2.frame
  clear k1 e33 e34
  rw [show List.range' 3 (Array.size _ - 3) = [3, 4] from rfl]
  have z35 : 35 < a2.tmps.size := by rw [z2]; decide
  refine wpOps_free rfl rfl (yield_op (l := l) [a2.tmps.getD 33 undef, a2.tmps.getD 34 undef] rfl v32 (by simp [Act.eval]) (hy i w2 _ hin hj2 hs2 hargs) ?_)
  intro e W hpost
  obtain ⟨r, he, hsm, hjt, hjf⟩ : ∃ r, e = .returned (.bool r) ∧ Same I w2 W ∧ (r = true → J (i + 1) W) ∧ (r = false → Jx W) := by
    obtain ⟨hsm, ⟨rfl, hj⟩ | ⟨rfl, hj⟩⟩ := hpost
    · exact ⟨true, rfl, hsm, fun _ => hj, fun h => (by cases h)⟩
    · exact ⟨false, rfl, hsm, fun h => (by cases h), fun _ => hj⟩
  subst he
  refine ⟨_, rfl, ?_⟩
  show wpOpsIn (Fw none) nn Tryz.prog _ _ [4] (a2.put (some 35) (.bool r)) W
  have hs4 : Same I w W := hs2.trans hsm
  refine region_rest (G := []) (nt := 38) (s := ⟨[(35, bo r)] ++ anyS (List.range 38), [], 0⟩) (ds := ⟨[], (· ∈ [36]), (a2.put (some 35) (.bool r)).tmps⟩) .nil 4 (by decide) (K := fun s => slot s.t 36 = bo (!r)) (by kernel_rfl) (fun j hj => hj) ?_ (SR.anew (ltI hs4) (slots_R ((put_size _ _).trans z2) ?_) ((put_size _ _).trans z2) d2 (fun _ _ => rfl)) ?_
  · refine regP_go (K1 := fun t _ => slot t 36 = bo (!r)) ?_
    simp only [go_sem, List.range, List.range.loop]
  · intro p hp; simp only [List.mem_singleton] at hp; subst hp; dsimp only; rw [put_at z35]; exact .v
  intro s5 ρ5 a5 w5 q1 q2
  have bel5 : RowKit.Below W.heap.size W w5 := q2.rel.below
  have hs5 : Same I w w5 := hs4.trans (Same.of_below bel5 (ltI hs4))
  have d5 : a5.defers = [] := q2.defers
  have z5 := q2.size
  have f5 : ∀ j, ¬ j ∈ [36] → 35 ≠ j → a5.tmps.getD j undef = a2.tmps.getD j undef := fun j h1 h2 => (q2.frame j h1).trans (put_not z35 h2)
  have v36 := q2.val q1
  clear q1 q2
  refine wpIn_cond_split v36 (fun hb => ?_) (fun hb => ?_)
  · have hr : r = false := by simpa using hb
    have hjx : Jx w5 := hJx W w5 (hjf hr) bel5
    refine wpIn_ret ?_
    show LeavesInM Fence.wide nn Tryz.prog Tryz.f187 a5.tmps _ a5.defers .returning w5
    exact leave_nil d5 rfl fun v => ⟨⟨v, rfl⟩, .inr hjx⟩
  · have hr : r = true := by simpa using hb
    have hj5 : J (i + 1) w5 := hJ (i + 1) W w5 (hjt hr) bel5
    refine wpIn_skip ?_
    show Code.wpIn Fence.wide nn Tryz.prog (Code.region 8 _ false) _ a5 w5
    have g2 : ∀ j, ¬ j ∈ [15] → ¬ j ∈ [16, 17, 18, 5, 4, 19, 20, 21, 22, 6, 23, 24, 25, 26, 27, 28, 29, 30, 31, 32, 33, 34, 35, 36] → a5.tmps.getD j undef = a3.tmps.getD j undef := fun j h1 h2 => by
      rw [f5 j (fun h => h2 (by simp at h; subst h; decide)) (fun h => h2 (by subst h; decide)), f2 j h2, f1 j h1]
    refine pieceI (G := []) (H := []) .nil hm (l := [(14, i64 i)]) (W := [37, 14]) (K := fun e s => match e with | .normal => slot s.t 14 = i64 (i + 1) | _ => False) (by kernel_rfl) (by kernel_rfl) (by kernel_rfl) ?_ (ltI hs5) z5 ?_ ?_
    · refine awp_go (K1 := fun e t _ => match e with | .normal => slot t 14 = i64 (i + 1) | _ => False) ?_
      simp only [go_sem, List.range, List.range.loop]
      intro z hz
      have e1 : IntKind.i64.wrap ((i : Int) + 1) = i + 1 := wrap_in (by unfold inR; omega)
      rw [hz, e1]
    · intro p hp; simp only [List.mem_singleton] at hp; subst hp; dsimp only; rw [g2 14 (by decide) (by decide), hAt.t14]; exact .v
    intro e s6 ρ6 a6 w6 q1 q2
    cases e with
    | exit j => exact q1.elim
    | ret => exact q1.elim
    | normal =>
    have bel6 : RowKit.Below w5.heap.size w5 w6 := q2.rel.below
    have f6 : ∀ j, ¬ j ∈ [37, 14] → a6.tmps.getD j undef = a5.tmps.getD j undef := q2.frame
    refine ih a6 w6 (i + 1) ⟨q2.size, q2.defers.trans d5, ?_, ?_, ?_, ?_, ?_, ?_, by omega, hJ (i + 1) w5 w6 hj5 bel6, hs5.trans (Same.of_below bel6 (ltI hs5))⟩ (by omega)
    · rw [f6 0 (by decide), g2 0 (by decide) (by decide), hAt.t0]
    · rw [f6 1 (by decide), g2 1 (by decide) (by decide), hAt.t1]
    · rw [f6 3 (by decide), g2 3 (by decide) (by decide), hAt.t3]
    · rw [f6 12 (by decide), g2 12 (by decide) (by decide), hAt.t12]
    · rw [f6 13 (by decide), g2 13 (by decide) (by decide), hAt.t13]
    · have := q2.val q1; rw [this]; rfl
end Go.Ax
end

section
/-
  Spots: sides, convex spots.
-/
set_option linter.unusedVariables false
set_option linter.unusedSimpArgs false
set_option maxHeartbeats 1000000
set_option maxRecDepth 100000
namespace Go.Ax
open Go.Proofs

def c100 : Con
  | [.agg [.v (.int .i64 a), .v (.int .i64 b)], .agg [.v (.int .i64 c), .v (.int .i64 d)], .agg [.v (.int .i64 e), .v (.int .i64 f)]] => some ([], i64 (sideS a b c d e f))
  | _ => none
/-- As the reference turns. -/
theorem turn_wrap' {ax ay bx byy cx cy : Int} (ha : validS ax ay = true) (hb : validS bx byy = true) (hc : validS cx cy = true) :
    IntKind.i64.wrap (IntKind.i64.wrap (IntKind.i64.wrap (bx - ax) * IntKind.i64.wrap (cy - ay)) - IntKind.i64.wrap (IntKind.i64.wrap (byy - ay) * IntKind.i64.wrap (cx - ax))) = turnS ax ay bx byy cx cy := turn_wrap ha hb hc
theorem con100 : ConOK Tryz.prog 100 c100 := ConOK.of (G := [(72, c72), (80, c164), (81, c81)]) (H := []) (.cons con72 (.cons con80 (.cons con81 .nil))) Tryz.func100 fun l ob r hc hob => by
  unfold c100 at hc
  split at hc
  · rename_i a b c d e f
    cases hc
    refine ⟨by kernel_rfl, fnVC_go (rs := [.tmp 6]) rfl rfl ?_⟩
    simp only [go_sem, c72, c81, c164]
    intro z hz z1 hz1 z2 hz2
    subst hz hz1 hz2
    refine ⟨fun h => ?_, fun h x0 h0 x1 h1 x2 h2 x3 h3 t ht => ?_⟩
    · unfold sideS; rw [if_neg]; rintro ⟨k1, k2, k3⟩; rw [k1, k2, k3] at h; simp at h
    · have hv : validS a b = true ∧ validS c d = true ∧ validS e f = true := ⟨h.1.1, h.1.2, h.2⟩
      subst h0 h1 h2 h3
      rw [turn_wrap' hv.1 hv.2.1 hv.2.2] at ht
      refine ⟨fun k => ?_, fun k => ⟨fun k2 => ?_, fun k2 => ?_⟩⟩
      · unfold sideS; rw [if_pos hv, ← ht, if_pos k]
      · unfold sideS; rw [if_pos hv, ← ht, if_neg k, if_pos k2]
      · unfold sideS; rw [if_pos hv, ← ht, if_neg k, if_neg k2]
  · cases hc
def c121 : Con
  | [.agg [.ro n 2 g]] => some ([], .fn 187 [.rop [.ro n 2 g]])
  | _ => none
theorem con121 : ConOK Tryz.prog 121 c121 := ConOK.of (G := []) (H := []) .nil Tryz.func121 fun l ob r hc hob => by
  unfold c121 at hc
  split at hc
  · rename_i n g
    cases hc
    refine ⟨by kernel_rfl, fnVC_go (rs := [.tmp 2]) rfl rfl ?_⟩
    simp only [go_sem]
  · cases hc

theorem tmod_nxt {n i : Nat} (h : i < n) : Int.tmod ((i : Int) + 1) n = (nxt n i : Nat) := by
  unfold nxt
  by_cases e : i + 1 < n
  · rw [if_pos e, Int.tmod_eq_of_lt (by omega) (by omega)]; rfl
  · have : i + 1 = n := by omega
    rw [if_neg e, show (i : Int) + 1 = n by omega, Int.tmod_self]; rfl
/-- The spots are convex. -/
def convexS (n : Nat) (X Y : Nat → Int) : Bool := decide (3 ≤ n ∧ (∀ i, i < n → validS (X i) (Y i) = true) ∧ ∀ i, i < n → ∀ k, k < n → k ≠ i → k ≠ nxt n i → 0 < turnS (X i) (Y i) (X (nxt n i)) (Y (nxt n i)) (X k) (Y k))
theorem convexS_iff {n : Nat} {X Y : Nat → Int} : convexS n X Y = true ↔ 3 ≤ n ∧ (∀ i, i < n → validS (X i) (Y i) = true) ∧ ∀ i, i < n → ∀ k, k < n → k ≠ i → k ≠ nxt n i → 0 < turnS (X i) (Y i) (X (nxt n i)) (Y (nxt n i)) (X k) (Y k) := by unfold convexS; simp
def c55 : Con
  | [.ro n 2 g] => some ([spots n g, n ≤ 9223372036854775806], bo (convexS n (gx g 0) (gx g 1)))
  | _ => none
theorem vc55 (n : Nat) (X Y : Nat → Int) (hX : ∀ i, i < n → inR (X i) ∧ inR (Y i)) (hn : n ≤ 9223372036854775806) : fnVC Tryz.prog [(70, c70), (97, c97), (121, c121), (1000000 + 187, c187)] [] Tryz.f55 [.ro n 2 fun i => [i64 (X i), i64 (Y i)]] (· = bo (convexS n X Y)) := by
  refine fnVC_go (rs := [.cell 2 4]) rfl rfl ?_
  simp only [go_sem, c70, c121]
  intro z hz
  have hg : spots n fun i => [i64 (X i), i64 (Y i)] := fun i hi => ⟨rfl, hX i hi⟩
  have hzz : z = true ↔ ∀ i, i < n → validS (X i) (Y i) = true := by rw [hz]; exact fairS_iff
  refine ⟨fun _ => hg, fun _ => by omega, fun h => false_of fun hc => ?_, fun h => ?_⟩
  · have := convexS_iff.1 hc
    rcases h with h | h
    · omega
    · rw [hzz.2 this.2.1] at h; cases h
  have hv := hzz.1 h.2
  have h3 : 3 ≤ n := by omega
  let good : Nat → Prop := fun i => ∀ k, k < n → k ≠ i → k ≠ nxt n i → 0 < turnS (X i) (Y i) (X (nxt n i)) (Y (nxt n i)) (X k) (Y k)
  refine rangeC_go (fun (i : Nat) => i ≤ n ∧ ∀ j, j < i → good j) (fun i => i) (fun i => [(10, fam1 3 1 [i64 i] none)]) [1, 0] [19, 20, 4, 5, 21, 22, 23, 24, 25, 26, 27, 7, 6, 28, 29, 30, 31, 32, 33, 34, 35, 36, 37, 38, 39, 40, 41, 42, 43, 44, 45, 46, 47, 23, 48, 49] 0 0 (N := n) (sq := edgeE n fun i => [i64 (X i), i64 (Y i)]) (ob := [spots n fun i => [i64 (X i), i64 (Y i)], n ≤ 9223372036854775806]) rfl (by simp [hg, hn]) (by kernel_rfl) rfl (fun i _ => ⟨rfl, rfl⟩) ⟨Nat.zero_le _, fun j hj => by omega⟩ rfl ⟨[], ?_, ?_, ?_⟩ ?_ ?_
  · simp only [go_sem]
  · simp only [go_sem]
  · simp [goodNames, asg]
  · intro i hi hlt
    simp only [go_sem, edgeE]
    have hnl : nxt n i < n := nxt_lt hlt
    have hin : i < n := hlt
    refine loopC_go (fun (k : Nat) => k ≤ n ∧ ∀ q, q < k → q ≠ i → q ≠ nxt n i → 0 < turnS (X i) (Y i) (X (nxt n i)) (Y (nxt n i)) (X q) (Y q)) (fun k => n - k) (fun k => [(23, i64 k)]) (fun _ => []) [17, 15, 10, 1, 0] [24, 25, 26, 27, 7, 6, 28, 29, 30, 31, 32, 33, 34, 35, 36, 37, 38, 39, 40, 41, 42, 43, 44, 45, 46, 47, 23] 0 (by kernel_rfl) ?_ ⟨Nat.zero_le _, fun j hj => by omega⟩ ?_ ?_
    · intro x _; simp [goodNames]
    · simp only [go_sem]
    · intro k hk
      have hn0 : ((n : Int) = 0) = False := eq_false (by omega)
      simp only [go_sem, c97, hn0]
      have ei : IntKind.i64.wrap ((i : Int) + 1) = i + 1 := wrap_in (by unfold inR; omega)
      have ek : k < n → IntKind.i64.wrap ((k : Int) + 1) = k + 1 := fun h => wrap_in (by unfold inR; omega)
      have bn : ∀ x y : Nat, ((x : Int) != (y : Int)) = true ↔ x ≠ y := fun x y => by rw [bne_iff_ne]; omega
      refine ⟨fun hkn => ⟨by omega, hkn, fun z1 hz1 z2 hz2 t ht => ?_⟩, fun hkn z1 hz1 => ⟨i + 1, ⟨by omega, fun j hj => ?_⟩, rfl, [], ?_, ?_⟩⟩
      · rw [ei] at hz1
        rw [hz1, tmod_nxt hin] at hz2
        subst hz2
        have hkn' : k < n := by omega
        refine ⟨fun _ => hv i hin, fun _ => hv _ hnl, fun _ => hv k hkn', fun hb => false_of fun hc => ?_, fun hb z3 hz3 => ⟨k + 1, ⟨by omega, fun q hq h1 h2 => ?_⟩, by omega, ?_⟩⟩
        · have := (convexS_iff.1 hc).2.2 i hin k hkn' ((bn _ _).1 hb.1.1) ((bn _ _).1 hb.1.2)
          omega
        · by_cases e : q = k
          · subst e
            rw [(bn q i).2 h1, (bn q (nxt n i)).2 h2] at hb
            simp at hb
            omega
          · exact hk.2 q (by omega) h1 h2
        · rw [hz3, ek hkn']; omega
      · by_cases e : j = i
        · subst e
          intro q hq h1 h2
          exact hk.2 q (by omega) h1 h2
        · exact hi.2 j (by omega)
      · simp only [go_sem]
        rw [hz1, ei]; rfl
      · simp [goodNames, asg]
  · intro i hi he
    simp only [go_sem]
    refine (convexS_iff.2 ⟨h3, hv, fun j hj => ?_⟩).symm ▸ rfl
    exact hi.2 j (by omega)
theorem con55 : ConOK Tryz.prog 55 c55 := ConOK.go (G := [(70, c70), (97, c97), (121, c121), (1000000 + 187, c187)]) (H := []) (.cons con70 (.cons con97 (.cons con121 (.seq seq187 .nil)))) Tryz.func55 fun l ob r hc hob => by
  unfold c55 at hc
  split at hc
  · rename_i n g
    cases hc
    have hs : spots n g := hob _ (by simp)
    refine ⟨[.ro n 2 fun i => [i64 (gx g 0 i), i64 (gx g 1 i)]], fun w I vs h => Rs_one (fun v => ro_alike fun i hi => (hs i hi).1) h, by kernel_rfl, vc55 n _ _ (fun i hi => (hs i hi).2) (hob _ (by simp))⟩
  · cases hc
end Go.Ax
end

section
/-
  Spots: what the reference says; copies of spots.
-/
set_option linter.unusedVariables false
set_option linter.unusedSimpArgs false
set_option maxHeartbeats 1000000
set_option maxRecDepth 100000
namespace Go.Ax
open Go.Proofs

theorem vc75 (n : Nat) (X Y : Nat → Int) (hX : ∀ i, i < n → inR (X i) ∧ inR (Y i)) (hn : n ≤ 9223372036854775806) : fnVC Tryz.prog [(100, c100), (72, c72)] [] Tryz.f75 [.ro n 2 fun i => [i64 (X i), i64 (Y i)]] (· = bo (convexS n X Y)) := by
  refine fnVC_go (rs := [.tmp 2]) rfl rfl ?_
  simp only [go_sem]
  refine ⟨fun h => false_of fun hc => ?_, fun h => ?_⟩
  · have := convexS_iff.1 hc
    omega
  have h3 : 3 ≤ n := by omega
  let good : Nat → Prop := fun i => ∀ k, k < n → k ≠ i → k ≠ nxt n i → 0 < turnS (X i) (Y i) (X (nxt n i)) (Y (nxt n i)) (X k) (Y k)
  refine loopC_go (fun (i : Nat) => i ≤ n ∧ (0 < i → ∀ k, k < n → validS (X k) (Y k) = true) ∧ ∀ j, j < i → good j) (fun i => n - i) (fun i => [(3, i64 i)]) (fun _ => []) [] [9, 10, 11, 12, 15, 16, 17, 18, 19, 4, 5, 20, 21, 22, 23, 26, 27, 28, 29, 30, 31, 32, 33, 34, 35, 36, 37, 38, 39, 40, 41, 42, 43, 44, 45, 46, 47, 48, 49, 50, 51, 52, 53, 54, 55, 56, 57, 2, 24, 25, 5, 13, 14, 3] 0 (by kernel_rfl) ?_ ⟨Nat.zero_le _, fun h => by omega, fun j hj => by omega⟩ ?_ ?_
  · intro x _; simp [goodNames]
  · simp only [go_sem]
  · intro i hi
    have hn0 : ((n : Int) = 0) = False := eq_false (by omega)
    simp only [go_sem, hn0]
    refine ⟨fun hin z hz z1 hz1 => ?_, fun hin => (convexS_iff.2 ⟨h3, hi.2.1 (by omega), fun j hj => hi.2.2 j (by omega)⟩).symm⟩
    have hin : i < n := by omega
    have ei : IntKind.i64.wrap ((i : Int) + 1) = i + 1 := wrap_in (by unfold inR; omega)
    rw [ei] at hz
    rw [hz, tmod_nxt hin] at hz1
    have hnl : nxt n i < n := nxt_lt hin
    subst hz1
    refine loopC_go (fun (k : Nat) => k ≤ n ∧ ∀ q, q < k → validS (X q) (Y q) = true ∧ (q ≠ i → q ≠ nxt n i → 0 < turnS (X i) (Y i) (X (nxt n i)) (Y (nxt n i)) (X q) (Y q))) (fun k => n - k) (fun k => [(5, i64 k)]) (fun _ => []) [] [20, 21, 22, 23, 26, 27, 28, 29, 30, 31, 32, 33, 34, 35, 36, 37, 38, 39, 40, 41, 42, 43, 44, 45, 46, 47, 48, 49, 50, 51, 52, 53, 54, 55, 56, 57, 2, 24, 25, 5] 0 (by kernel_rfl) ?_ ⟨Nat.zero_le _, fun j hj => by omega⟩ ?_ ?_
    · intro x _; simp [goodNames]
    · simp only [go_sem]
    · intro k hk
      simp only [go_sem, c100, c72]
      have bn : ∀ x y : Nat, ((x : Int) != (y : Int)) = true ↔ x ≠ y := fun x y => by rw [bne_iff_ne]; omega
      refine ⟨fun hkn => ⟨by omega, hkn, fun z1 hz1 => ⟨fun h1 h2 => ⟨h1, h2⟩, fun _ => by omega, fun _ => by omega, fun _ => by omega, fun _ => by omega, fun _ => by omega, fun _ => by omega, fun t ht => ⟨fun h1 h2 => ⟨h1, h2⟩, fun hb => false_of fun hc => ?_, fun hb z3 hz3 => ⟨k + 1, ⟨by omega, fun q hq => ?_⟩, by omega, ?_⟩⟩⟩⟩, fun hkn z1 hz1 => ⟨i + 1, ⟨by omega, fun _ q hq => (hk.2 q (by omega)).1, fun j hj => ?_⟩, by omega, ?_⟩⟩
      · have hkn' : k < n := by omega
        obtain ⟨_, k2, k3⟩ := convexS_iff.1 hc
        rcases hb with hb | hb
        · rw [hb, k2 k hkn'] at hz1; cases hz1
        · have hp := k3 i hin k hkn' ((bn _ _).1 hb.1.1) ((bn _ _).1 hb.1.2)
          have : t = 1 := by rw [ht]; unfold sideS; rw [if_pos ⟨k2 i hin, k2 _ hnl, k2 k hkn'⟩, if_pos hp]
          omega
      · by_cases e : q = k
        · subst e
          rw [← hz1]
          refine ⟨hb.1, fun h1 h2 => ?_⟩
          have hb2 := hb.2
          rw [(bn q i).2 h1, (bn q (nxt n i)).2 h2] at hb2
          simp at hb2
          rw [ht] at hb2
          unfold sideS at hb2
          split at hb2
          · split at hb2
            · assumption
            · split at hb2 <;> omega
          · omega
        · exact hk.2 q (by omega)
      · rw [hz3, wrap_in (by unfold inR; omega)]; rfl
      · by_cases e : j = i
        · subst e
          intro q hq h1 h2
          exact (hk.2 q (by omega)).2 h1 h2
        · exact hi.2.2 j (by omega)
      · rw [hz1, ei]; rfl
theorem con75 : ConOK Tryz.prog 75 c55 := ConOK.go (G := [(100, c100), (72, c72)]) (H := []) (.cons con100 (.cons con72 .nil)) Tryz.func75 fun l ob r hc hob => by
  unfold c55 at hc
  split at hc
  · rename_i n g
    cases hc
    have hs : spots n g := hob _ (by simp)
    refine ⟨[.ro n 2 fun i => [i64 (gx g 0 i), i64 (gx g 1 i)]], fun w I vs h => Rs_one (fun v => ro_alike fun i hi => (hs i hi).1) h, by kernel_rfl, vc75 n _ _ (fun i hi => (hs i hi).2) (hob _ (by simp))⟩
  · cases hc

/-! ### Copies -/
def c16 : Con
  | [.ro n 2 g] => some ([spots n g, n ≤ 1000], .ro n 2 fun i => [i64 (gx g 0 i), i64 (gx g 1 i)])
  | _ => none
theorem vc16 (n : Nat) (X Y : Nat → Int) (hn : n ≤ 1000) : fnVC Tryz.prog [] [] Tryz.f16 [.ro n 2 fun i => [i64 (X i), i64 (Y i)]] (· = .ro n 2 fun i => [i64 (X i), i64 (Y i)]) := by
  refine fnVC_go (rs := [.tmp 2]) rfl rfl ?_
  simp only [go_sem]
  refine loopN_go (fun (i : Nat) => i ≤ n) (fun i => n - i) (fun i => [(4, i64 i), (3, .own 3 0 i 2)]) (fun i => [(3, famN i 2 34 (fun k => [i64 (X k), i64 (Y k)]) none)]) [] [5, 6, 7, 8, 11, 12, 13, 14, 15, 16, 17, 3, 9, 10, 4] 1 0 (by kernel_rfl) (Nat.zero_le _) ⟨[(3, none)], ?_, ?_, ?_, ?_⟩ ?_
  · simp only [go_sem]
  · simp only [go_sem]
  · simp only [go_sem]
  · exact goodNames_one (k := 0) (by decide) (fun z h => by cases h)
  intro i hi
  simp only [go_sem]
  refine ⟨fun hlt => ⟨by omega, hlt, ?_, by omega, fun z hz => ⟨i + 1, by omega, by omega, [(3, some 14)], ⟨?_, by rw [fit1_named (r := 0)]; exact ⟨by omega, rfl⟩⟩, ?_, goodNames_one (k := 0) (by decide) (fun z h => by cases h; decide)⟩⟩, fun hge => ?_⟩
  · rw [show bytesT Tryz.prog 34 = 16 by kernel_rfl]; omega
  · rw [wrap_i64] at hz; omega
  · rw [fitRows_some]
    simp only [go_sem]
    intro k hk
    by_cases e : k < i
    · rw [if_pos e]; simp only [go_sem]
    · have e : k = i := by omega
      subst e
      rw [if_neg (by omega), Nat.sub_self]
      simp only [Nat.zero_mul, go_sem]
  · have e : i = n := by omega
    subst e; rfl
theorem con16 : ConOK Tryz.prog 16 c16 := ConOK.go (G := []) (H := []) .nil Tryz.func16 fun l ob r hc hob => by
  unfold c16 at hc
  split at hc
  · rename_i n g
    cases hc
    have hs : spots n g := hob _ (by simp)
    refine ⟨[.ro n 2 fun i => [i64 (gx g 0 i), i64 (gx g 1 i)]], fun w I vs h => Rs_one (fun v => ro_alike fun i hi => (hs i hi).1) h, by kernel_rfl, vc16 n _ _ (hob _ (by simp))⟩
  · cases hc
def c22 : Con
  | [.ro n 2 g, .ro m 2 g'] => some ([spots n g, spots m g', n ≤ 9223372036854775806, m ≤ 9223372036854775806], bo (decide (n = m ∧ ∀ i, i < n → gx g 0 i = gx g' 0 i ∧ gx g 1 i = gx g' 1 i)))
  | _ => none
theorem vc22 (n m : Nat) (X Y Z T : Nat → Int) (hn : n ≤ 9223372036854775806) : fnVC Tryz.prog [] [] Tryz.f22 [.ro n 2 fun i => [i64 (X i), i64 (Y i)], .ro m 2 fun i => [i64 (Z i), i64 (T i)]] (· = bo (decide (n = m ∧ ∀ i, i < n → X i = Z i ∧ Y i = T i))) := by
  refine fnVC_go (rs := [.tmp 4]) rfl rfl ?_
  simp only [go_sem]
  refine ⟨fun h => ?_, fun h => ?_⟩
  · refine (decide_eq_false fun hc => ?_).symm
    rw [bne_iff_ne] at h; omega
  refine loopC_go (fun (i : Nat) => i ≤ n ∧ ∀ j, j < i → X j = Z j ∧ Y j = T j) (fun i => n - i) (fun i => [(5, i64 i)]) (fun _ => []) [] [11, 12, 13, 14, 17, 18, 19, 20, 21, 22, 23, 24, 25, 4, 15, 16, 5] 0 (by kernel_rfl) ?_ ⟨Nat.zero_le _, fun j hj => by omega⟩ ?_ ?_
  · intro x _; simp [goodNames]
  · simp only [go_sem]
  · intro i hi
    simp only [go_sem]
    have hnm : n = m := by
      have : ¬ ((n : Int) != m) = true := by rw [h]; simp
      rw [bne_iff_ne] at this; omega
    subst hnm
    refine ⟨fun hin => ⟨by omega, hin, by omega, hin, fun hb => ?_, fun hb z hz => ⟨i + 1, ⟨by omega, fun j hj => ?_⟩, by omega, ?_⟩⟩, fun hin => ?_⟩
    · refine (decide_eq_false fun hc => ?_).symm
      have := hc.2 i (by omega)
      rw [this.1, this.2] at hb
      simp at hb
    · by_cases e : j = i
      · subst e; exact ⟨by simpa using hb.1, by simpa using hb.2⟩
      · exact hi.2 j (by omega)
    · rw [hz, wrap_in (by unfold inR; omega)]; rfl
    · exact (decide_eq_true ⟨rfl, fun j hj => hi.2 j (by omega)⟩).symm
theorem con22 : ConOK Tryz.prog 22 c22 := ConOK.go (G := []) (H := []) .nil Tryz.func22 fun l ob r hc hob => by
  unfold c22 at hc
  split at hc
  · rename_i n g m g'
    cases hc
    have hs : spots n g := hob _ (by simp)
    have hs' : spots m g' := hob _ (by simp)
    refine ⟨[.ro n 2 fun i => [i64 (gx g 0 i), i64 (gx g 1 i)], .ro m 2 fun i => [i64 (gx g' 0 i), i64 (gx g' 1 i)]], fun w I vs h => ?_, by kernel_rfl, vc22 n m _ _ _ _ (hob _ (by simp))⟩
    obtain ⟨x, xs, rfl, h1, h2⟩ := h.inv
    exact .cons (ro_alike (fun i hi => (hs i hi).1) h1) (Rs_one (fun v => ro_alike fun i hi => (hs' i hi).1) h2)
  · cases hc
end Go.Ax
end

section
/-
  Forms: what is valid; copies; which spots a form has.
-/
set_option linter.unusedVariables false
set_option linter.unusedSimpArgs false
set_option maxHeartbeats 1000000
set_option maxRecDepth 100000
namespace Go.Ax
open Go.Proofs

/-- A form: its kind, its center, its radius, its corners. -/
abbrev formA (k x y r : Int) (n : Nat) (g : Nat → List AV) : AV := .agg [i64 k, i64 x, i64 y, i64 r, .ro n 2 g]
theorem Rs_form {w : World} {ρ : Env} {k x y r : Int} {n : Nat} {g : Nat → List AV} (hs : spots n g) (v : Value) (h : R w ρ (formA k x y r n g) v) : R w ρ (formA k x y r n fun i => [i64 (gx g 0 i), i64 (gx g 1 i)]) v := by
  cases h with
  | agg hl hh =>
    refine .agg hl fun i a z h1 h2 => ?_
    match i with
    | 0 => exact hh 0 a z h1 h2
    | 1 => exact hh 1 a z h1 h2
    | 2 => exact hh 2 a z h1 h2
    | 3 => exact hh 3 a z h1 h2
    | 4 =>
      simp at h1; subst h1
      exact ro_alike (fun i hi => (hs i hi).1) (hh 4 _ z rfl h2)
    | j + 5 => simp at h1
theorem Rs_poly {w : World} {ρ : Env} {n : Nat} {g : Nat → List AV} (hs : spots n g) (v : Value) (h : R w ρ (.agg [.ro n 2 g]) v) : R w ρ (.agg [.ro n 2 fun i => [i64 (gx g 0 i), i64 (gx g 1 i)]]) v := by
  cases h with
  | agg hl hh =>
    refine .agg hl fun i a z h1 h2 => ?_
    match i with
    | 0 =>
      simp at h1; subst h1
      exact ro_alike (fun i hi => (hs i hi).1) (hh 0 _ z rfl h2)
    | j + 1 => simp at h1
theorem Rs_two {w : World} {ρ : Env} {a a' b b' : AV} {vs : List Value} (h : ∀ v, R w ρ a v → R w ρ a' v) (k : ∀ v, R w ρ b v → R w ρ b' v) (hR : Rs w ρ [a, b] vs) : Rs w ρ [a', b'] vs := by
  obtain ⟨x, xs, rfl, h1, h2⟩ := hR.inv
  exact .cons (h x h1) (Rs_one k h2)

def c13 : Con
  | [.agg [.v (.int .i64 k), .v (.int .i64 x), .v (.int .i64 y), .v (.int .i64 r), .ro n 2 g]] => some ([], bo (decide ((n : Int) ≤ 12)))
  | _ => none
theorem con13 : ConOK Tryz.prog 13 c13 := ConOK.of (G := []) (H := []) .nil Tryz.func13 fun l ob r hc hob => by
  unfold c13 at hc
  split at hc
  · cases hc
    refine ⟨by kernel_rfl, fnVC_go (rs := [.tmp 2]) rfl rfl ?_⟩
    simp only [go_sem]
  · cases hc
def c15 : Con
  | [.agg [.v (.int .i64 k), .v (.int .i64 x), .v (.int .i64 y), .v (.int .i64 r), .ro n 2 g]] => some ([spots n g, n ≤ 1000], formA k x y r n fun i => [i64 (gx g 0 i), i64 (gx g 1 i)])
  | _ => none
theorem con15 : ConOK Tryz.prog 15 c15 := ConOK.of (G := [(16, c16)]) (H := []) (.cons con16 .nil) Tryz.func15 fun l ob r hc hob => by
  unfold c15 at hc
  split at hc
  · rename_i k x y r n g
    cases hc
    have hs : spots n g := hob _ (by simp)
    have hn : n ≤ 1000 := hob _ (by simp)
    refine ⟨by kernel_rfl, fnVC_go (rs := [.cell 2 36]) rfl rfl ?_⟩
    simp only [go_sem, c16]
    exact ⟨hs, hn⟩
  · cases hc
/-- The forms are equal. -/
def sameF (k x y r : Int) (n : Nat) (g : Nat → List AV) (k' x' y' r' : Int) (n' : Nat) (g' : Nat → List AV) : Bool :=
  (k == k') && (x == x' && y == y') && (r == r') && decide (n = n' ∧ ∀ i, i < n → gx g 0 i = gx g' 0 i ∧ gx g 1 i = gx g' 1 i)
def c19 : Con
  | [.agg [.v (.int .i64 k), .v (.int .i64 x), .v (.int .i64 y), .v (.int .i64 r), .ro n 2 g], .agg [.v (.int .i64 k'), .v (.int .i64 x'), .v (.int .i64 y'), .v (.int .i64 r'), .ro n' 2 g']] => some ([spots n g, spots n' g', n ≤ 9223372036854775806, n' ≤ 9223372036854775806], bo (sameF k x y r n g k' x' y' r' n' g'))
  | _ => none
theorem con19 : ConOK Tryz.prog 19 c19 := ConOK.of (G := [(22, c22)]) (H := []) (.cons con22 .nil) Tryz.func19 fun l ob r hc hob => by
  unfold c19 at hc
  split at hc
  · rename_i k x y r n g k' x' y' r' n' g'
    cases hc
    have hs : spots n g := hob _ (by simp)
    have hs' : spots n' g' := hob _ (by simp)
    have hn : n ≤ 9223372036854775806 := hob _ (by simp)
    have hn' : n' ≤ 9223372036854775806 := hob _ (by simp)
    refine ⟨by kernel_rfl, fnVC_go (rs := [.tmp 4]) rfl rfl ?_⟩
    simp only [go_sem, c22]
    intro z hz
    refine ⟨fun _ => hs, fun _ => hs', fun _ => hn, fun _ => hn', ?_⟩
    rw [hz]; rfl
  · cases hc
def c155 : Con
  | [.agg [.v (.int .i64 a), .v (.int .i64 b)], .agg [.v (.int .i64 c), .v (.int .i64 d)]] => some ([], i64 (IntKind.i64.wrap (IntKind.i64.wrap (a * c) + IntKind.i64.wrap (b * d))))
  | _ => none
theorem con155 : ConOK Tryz.prog 155 c155 := ConOK.of (G := []) (H := []) .nil Tryz.func155 fun l ob r hc hob => by
  unfold c155 at hc
  split at hc
  · cases hc
    refine ⟨by kernel_rfl, fnVC_go (rs := [.tmp 4]) rfl rfl ?_⟩
    simp only [go_sem]
    intro z h z1 h1 z2 h2
    rw [h2, h1, h]
  · cases hc
theorem con91 : ConOK Tryz.prog 91 c155 := ConOK.of (G := []) (H := []) .nil Tryz.func91 fun l ob r hc hob => by
  unfold c155 at hc
  split at hc
  · cases hc
    refine ⟨by kernel_rfl, fnVC_go (rs := [.tmp 4]) rfl rfl ?_⟩
    simp only [go_sem]
    intro z h z1 h1 z2 h2
    rw [h2, h1, h]
  · cases hc
theorem con74 : ConOK Tryz.prog 74 c71 := ConOK.of (G := []) (H := []) .nil Tryz.func74 fun l ob r hc hob => by
  unfold c71 at hc
  split at hc
  · cases hc
    refine ⟨by kernel_rfl, fnVC_go (rs := [.cell 4 58]) rfl rfl ?_⟩
    simp only [go_sem]
    intro z h z1 h1 z2 h2 z3 h3
    subst h h1 h2 h3
    rfl
  · cases hc

theorem wrap_inR (x : Int) : inR (IntKind.i64.wrap x) := by rw [wrap_i64]; unfold inR; omega
theorem fair1 {a b : Int} {g : Nat → List AV} (h0 : g 0 = [i64 a, i64 b]) : fairS 1 (gx g 0) (gx g 1) = validS a b := by
  rw [Bool.eq_iff_iff, fairS_iff]
  constructor
  · intro h
    have k0 := h 0 (by omega)
    simp only [gx, h0, gi_0, gi_1] at k0
    exact k0
  · intro h i hi
    have : i = 0 := by omega
    subst this
    simp only [gx, h0, gi_0, gi_1]; exact h
theorem spots1 {a b : Int} {g : Nat → List AV} (h0 : g 0 = [i64 a, i64 b]) (ha : inR a) (hb : inR b) : spots 1 g := by
  intro i hi
  have : i = 0 := by omega
  subst this
  simp only [gx, h0, gi_0, gi_1]; exact ⟨trivial, ha, hb⟩
/-- The error of a form. -/
def checkS (k x y r : Int) (n : Nat) (X Y : Nat → Int) : Int :=
  if k ≠ 1 ∧ k ≠ 2 then 8
  else if ¬ (validS x y = true ∧ ∀ i, i < n → validS (X i) (Y i) = true) then 3
  else if k = 1 then (if 1 ≤ r ∧ (2097152 < r ∨ checkBoxS (x - r) (y - r) (x + r) (y + r) ≠ 0) then 3 else if r < 1 ∨ 0 < n then 5 else 0)
  else if r ≠ 0 ∨ 8 < n ∨ convexS n X Y = false then 5 else 0
instance {n : Nat} {X Y : Nat → Int} : Decidable (∀ i, i < n → validS (X i) (Y i) = true) := inferInstance
def c20 : Con
  | [.agg [.v (.int .i64 k), .v (.int .i64 x), .v (.int .i64 y), .v (.int .i64 r), .ro n 2 g]] => some ([spots n g, n ≤ 9223372036854775806, inR x, inR y, inR r], i64 (checkS k x y r n (gx g 0) (gx g 1)))
  | _ => none
theorem con20 : ConOK Tryz.prog 20 c20 := ConOK.of (G := [(31, c31), (55, c55), (70, c70), (71, c71)]) (H := []) (.cons con31 (.cons con55 (.cons con70 (.cons con71 .nil)))) Tryz.func20 fun l ob r hc hob => by
  unfold c20 at hc
  split at hc
  · rename_i k x y r n g
    cases hc
    have hs : spots n g := hob _ (by simp)
    have hn : n ≤ 9223372036854775806 := hob _ (by simp)
    have hx : inR x := hob _ (by simp)
    have hy : inR y := hob _ (by simp)
    have hr : inR r := hob _ (by simp)
    refine ⟨by kernel_rfl, fnVC_go (rs := [.tmp 2]) rfl rfl ?_⟩
    simp only [go_sem, c31, c55, c70, c71]
    have hfa : fairS 1 (gx (rowsOf 2 [AV.v (Value.int IntKind.i64 x), AV.v (Value.int IntKind.i64 y)]) 0) (gx (rowsOf 2 [AV.v (Value.int IntKind.i64 x), AV.v (Value.int IntKind.i64 y)]) 1) = validS x y := fair1 rfl
    have hsp : spots 1 (rowsOf 2 [AV.v (Value.int IntKind.i64 x), AV.v (Value.int IntKind.i64 y)]) := spots1 rfl hx hy
    rw [hfa]
    refine ⟨fun h => ?_, fun h z hz => ⟨hsp, fun z1 hz1 => ⟨fun _ => hs, fun _ => by omega, fun h3 => ?_, fun h3 z2 hz2 => ⟨fun _ => wrap_inR _, fun _ => wrap_inR _, fun _ => wrap_inR _, fun _ => wrap_inR _, fun a b => ⟨a, b⟩, fun h4 => ?_, fun h4 => ⟨fun a b => ⟨a, b⟩, fun h5 => ?_, fun h5 => ⟨fun a b => ⟨a, b⟩, fun z3 hz3 => ⟨fun _ => hs, fun _ => hn, fun a b => ⟨a, b⟩, fun h6 => ?_, fun h6 => ?_⟩⟩⟩⟩⟩⟩⟩
    · have h1 : k ≠ 1 ∧ k ≠ 2 := by simpa using h
      unfold checkS; rw [if_pos h1]
    · have h1 : ¬ (k ≠ 1 ∧ k ≠ 2) := by simp at h; omega
      have h2 : ¬ (validS x y = true ∧ ∀ i, i < n → validS (gx g 0 i) (gx g 1 i) = true) := by
        rintro ⟨v1, v2⟩
        rw [← fairS_iff] at v2
        rw [v1] at hz; rw [v2] at hz1
        simp [hz, hz1] at h3
      unfold checkS; rw [if_neg h1, if_pos h2]
    all_goals
      have h1 : ¬ (k ≠ 1 ∧ k ≠ 2) := by simp at h; omega
      have v1 : validS x y = true := by rw [← hz]; exact h3.1
      have v2 : ∀ i, i < n → validS (gx g 0 i) (gx g 1 i) = true := by rw [← fairS_iff, ← hz1]; exact h3.2
      have v3 := validS_iff.1 v1
      have h2 : ¬ ¬ (validS x y = true ∧ ∀ i, i < n → validS (gx g 0 i) (gx g 1 i) = true) := fun hn => hn ⟨v1, v2⟩
      have hb : 0 < r → ¬ 2097152 < r → z2 = checkBoxS (x - r) (y - r) (x + r) (y + r) := fun a b => by
        rw [hz2, wrap_in (x := x - r) (by unfold inR; omega), wrap_in (x := y - r) (by unfold inR; omega), wrap_in (x := x + r) (by unfold inR; omega), wrap_in (x := y + r) (by unfold inR; omega)]
      unfold checkS
      rw [if_neg h1, if_neg h2]
    · simp only [beq_iff_eq, bne_iff_ne, ne_eq] at h4
      rw [if_pos h4.1.1, if_pos]
      refine ⟨by omega, ?_⟩
      by_cases hr2 : 2097152 < r
      · exact .inl hr2
      · rw [← hb h4.1.2 hr2]; exact .inr (h4.2.resolve_left hr2)
    all_goals
      have h4' : k = 1 → ¬ (1 ≤ r ∧ (2097152 < r ∨ checkBoxS (x - r) (y - r) (x + r) (y + r) ≠ 0)) := by
        rintro hk ⟨a, b⟩
        have a' : 0 < r := by omega
        simp only [hk, beq_self_eq_true, Bool.true_and, a', decide_true, Bool.or_eq_false_iff, decide_eq_false_iff_not, bne_eq_false_iff_eq] at h4
        rw [← hb a' h4.1] at b
        rcases b with b | b
        · exact h4.1 b
        · exact b h4.2
    · have hk : k = 1 := by simpa using h5.1
      rw [if_pos hk, if_neg (h4' hk), if_pos (by have := h5.2; omega)]
    · have hk : k ≠ 1 := by simpa using h6.1
      rw [if_neg hk, if_pos]
      rw [← hz3]
      have := h6.2
      simp only [bne_iff_ne] at this
      rcases this with (a | a) | a
      · exact .inl a
      · exact .inr (.inl (by omega))
      · exact .inr (.inr a)
    · by_cases hk : k = 1
      · simp only [hk, beq_self_eq_true, Bool.true_and, Bool.or_eq_false_iff, decide_eq_false_iff_not] at h5
        rw [if_pos hk, if_neg (h4' hk), if_neg (by omega)]
      · have hk' : (k == 1) = false := by simpa using hk
        rw [if_neg hk, if_neg]
        rw [← hz3]
        simp only [hk', Bool.not_false, Bool.true_and, Bool.or_eq_false_iff, bne_eq_false_iff_eq, decide_eq_false_iff_not, Bool.not_eq_false'] at h6
        rintro (a | a | a)
        · exact a h6.1.1
        · exact h6.1.2 (by omega)
        · rw [h6.2] at a; cases a
  · cases hc
end Go.Ax
end

section
/-
  Forms: the reference's check; which spots a form has.
-/
set_option linter.unusedVariables false
set_option linter.unusedSimpArgs false
set_option maxHeartbeats 1000000
set_option maxRecDepth 100000
namespace Go.Ax
open Go.Proofs

theorem vc21 (k x y r : Int) (n : Nat) (X Y : Nat → Int) (hX : ∀ i, i < n → inR (X i) ∧ inR (Y i)) (hn : n ≤ 9223372036854775806) (hx : inR x) (hy : inR y) (hr : inR r) : fnVC Tryz.prog [(73, c73), (75, c55), (72, c72), (74, c71)] [] Tryz.f21 [formA k x y r n fun i => [i64 (X i), i64 (Y i)]] (· = i64 (checkS k x y r n X Y)) := by
  refine fnVC_go (rs := [.tmp 2]) rfl rfl ?_
  simp only [go_sem, c72]
  refine ⟨fun h => ?_, fun h z hz => ⟨fun h3 => ?_, fun h3 => ?_⟩⟩
  · have h1 : k ≠ 1 ∧ k ≠ 2 := by simpa using h
    unfold checkS; rw [if_pos h1]
  · have h1 : ¬ (k ≠ 1 ∧ k ≠ 2) := by simp at h; omega
    unfold checkS; rw [if_neg h1, if_pos]
    rintro ⟨v1, v2⟩
    rw [v1] at hz; rw [hz] at h3; cases h3
  have h1 : ¬ (k ≠ 1 ∧ k ≠ 2) := by simp at h; omega
  have v1 : validS x y = true := by rw [← hz]; exact h3
  refine loopC_go (fun (i : Nat) => i ≤ n ∧ ∀ j, j < i → validS (X j) (Y j) = true) (fun i => n - i) (fun i => [(3, i64 i)]) (fun _ => []) [0] [16, 17, 18, 19, 20, 23, 24, 25, 26, 27, 28, 29, 2, 21, 22, 3] 0 (by kernel_rfl) ?_ ⟨Nat.zero_le _, fun j hj => by omega⟩ ?_ ?_
  · intro x _; simp [goodNames]
  · simp only [go_sem]
  · intro i hi
    simp only [go_sem, c73, c55, c72, c71]
    refine ⟨fun hin => ⟨by omega, hin, fun z1 hz1 => ⟨fun h4 => ?_, fun h4 z2 hz2 => ⟨i + 1, ⟨by omega, fun j hj => ?_⟩, by omega, ?_⟩⟩⟩, fun hin => ?_⟩
    · unfold checkS; rw [if_neg h1, if_pos]
      rintro ⟨_, v2⟩
      rw [v2 i (by omega)] at hz1; rw [hz1] at h4; cases h4
    · by_cases e : j = i
      · subst e; rw [← hz1]; exact h4
      · exact hi.2 j (by omega)
    · rw [hz2, wrap_in (by unfold inR; omega)]; rfl
    have v2 : ∀ i, i < n → validS (X i) (Y i) = true := fun j hj => hi.2 j (by omega)
    have v3 := validS_iff.1 v1
    have h2 : ¬ ¬ (validS x y = true ∧ ∀ i, i < n → validS (X i) (Y i) = true) := fun hn => hn ⟨v1, v2⟩
    have hg : spots n fun i => [i64 (X i), i64 (Y i)] := fun i hi => ⟨rfl, hX i hi⟩
    have ec : convexS n (gx (fun i => [i64 (X i), i64 (Y i)]) 0) (gx (fun i => [i64 (X i), i64 (Y i)]) 1) = convexS n X Y := rfl
    rw [ec]
    have e0 : checkS k x y r n X Y = if k = 1 then (if 1 ≤ r ∧ (2097152 < r ∨ checkBoxS (x - r) (y - r) (x + r) (y + r) ≠ 0) then 3 else if r < 1 ∨ 0 < n then 5 else 0)
        else if r ≠ 0 ∨ 8 < n ∨ convexS n X Y = false then 5 else 0 := by unfold checkS; rw [if_neg h1, if_neg h2]
    rw [e0]
    refine ⟨fun hk z2 hz2 => ⟨fun a b => ⟨a, b⟩, fun h4 => ?_, fun h4 => ?_⟩, fun hk z2 hz2 => ⟨fun _ => hg, fun _ => hn, fun h4 => ?_, fun h4 => ?_⟩⟩
    · have hb : 0 < r → ¬ 2097152 < r → z2 = checkBoxS (x - r) (y - r) (x + r) (y + r) := fun a b => by
        rw [hz2, wrap_in (x := x - r) (by unfold inR; omega), wrap_in (x := y - r) (by unfold inR; omega), wrap_in (x := x + r) (by unfold inR; omega), wrap_in (x := y + r) (by unfold inR; omega)]
      rw [if_pos (by simpa using hk), if_pos]
      refine ⟨h4.1, ?_⟩
      by_cases hr2 : 2097152 < r
      · exact .inl hr2
      · rw [← hb (by omega) hr2]; exact .inr (by simpa using h4.2.resolve_left hr2)
    · have hb : 0 < r → ¬ 2097152 < r → z2 = checkBoxS (x - r) (y - r) (x + r) (y + r) := fun a b => by
        rw [hz2, wrap_in (x := x - r) (by unfold inR; omega), wrap_in (x := y - r) (by unfold inR; omega), wrap_in (x := x + r) (by unfold inR; omega), wrap_in (x := y + r) (by unfold inR; omega)]
      have h4' : ¬ (1 ≤ r ∧ (2097152 < r ∨ checkBoxS (x - r) (y - r) (x + r) (y + r) ≠ 0)) := by
        rintro ⟨a, b⟩
        simp only [a, decide_true, Bool.true_and, Bool.or_eq_false_iff, decide_eq_false_iff_not, bne_eq_false_iff_eq] at h4
        rw [← hb (by omega) h4.1] at b
        rcases b with b | b
        · exact h4.1 b
        · exact b h4.2
      rw [if_pos (by simpa using hk), if_neg h4']
      refine ⟨fun h5 => ?_, fun h5 => ?_⟩
      · rw [if_pos (by omega)]
      · rw [if_neg (by omega)]
    · rw [if_neg (by simpa using hk), if_pos]
      rw [← hz2]
      simp only [bne_iff_ne] at h4
      rcases h4 with ((a | a) | a) | a
      · exact .inl a
      · refine .inr (.inr (Bool.eq_false_iff.2 fun hc => ?_))
        rw [hz2] at hc
        have := (convexS_iff.1 hc).1
        omega
      · exact .inr (.inl (by omega))
      · exact .inr (.inr a)
    · rw [if_neg (by simpa using hk), if_neg]
      rw [← hz2]
      simp only [bne_eq_false_iff_eq] at h4
      rintro (a | a | a)
      · exact a h4.1.1.1
      · exact h4.1.2 (by omega)
      · rw [h4.2] at a; cases a
theorem con21 : ConOK Tryz.prog 21 c20 := ConOK.go (G := [(73, c73), (75, c55), (72, c72), (74, c71)]) (H := []) (.cons con73 (.cons con75 (.cons con72 (.cons con74 .nil)))) Tryz.func21 fun l ob rr hc hob => by
  unfold c20 at hc
  split at hc
  · rename_i k x y r n g
    cases hc
    have hs : spots n g := hob _ (by simp)
    exact ⟨[formA k x y r n fun i => [i64 (gx g 0 i), i64 (gx g 1 i)]], fun w I vs h => Rs_one (Rs_form hs) h, by kernel_rfl, vc21 k x y r n _ _ (fun i hi => (hs i hi).2) (hob _ (by simp)) (hob _ (by simp)) (hob _ (by simp)) (hob _ (by simp))⟩
  · cases hc

/-- A valid form ars a figure. -/
def figA (k x y r : Int) (n : Nat) (g : Nat → List AV) : AV := if k = 1 then .iface 128 (.agg [i64 x, i64 y, i64 r]) else .iface 133 (.agg [.ro n 2 g])
theorem figA_eq {k x y r : Int} {n : Nat} {g : Nat → List AV} : figA k x y r n g = if k = 1 then .iface 128 (.agg [i64 x, i64 y, i64 r]) else .iface 133 (.agg [.ro n 2 g]) := (rfl)
def c76 : Con
  | [.agg [.v (.int .i64 k), .v (.int .i64 x), .v (.int .i64 y), .v (.int .i64 r), .ro n 2 g]] => some ([spots n g, n ≤ 9223372036854775806, inR x, inR y, inR r], if checkS k x y r n (gx g 0) (gx g 1) = 0 then (if k = 1 then .iface 128 (.agg [i64 x, i64 y, i64 r]) else .iface 133 (.agg [.ro n 2 g])) else .v .nilIface)
  | _ => none
theorem con76 : ConOK Tryz.prog 76 c76 := ConOK.of (G := [(20, c20)]) (H := []) (.cons con20 .nil) Tryz.func76 fun l ob rr hc hob => by
  unfold c76 at hc
  split at hc
  · rename_i k x y r n g
    cases hc
    have hs : spots n g := hob _ (by simp)
    have hn : n ≤ 9223372036854775806 := hob _ (by simp)
    have hx : inR x := hob _ (by simp)
    have hy : inR y := hob _ (by simp)
    have hr : inR r := hob _ (by simp)
    refine ⟨by kernel_rfl, fnVC_go (rs := [.tmp 2]) rfl rfl ?_⟩
    simp only [go_sem, c20]
    intro z hz
    refine ⟨hs, hn, hx, hy, hr, fun h => ?_, fun h => ⟨fun h2 => ?_, fun h2 => ?_⟩⟩
    · rw [if_neg]; rw [← hz]; simpa using h
    · rw [if_pos (by rw [← hz]; simpa using h), if_pos (by simpa using h2)]
    · rw [if_pos (by rw [← hz]; simpa using h), if_neg (by simpa using h2)]
  · cases hc

/-! ### Which spots a form has -/
def dist2 (x y px py : Int) : Int := (px - x) * (px - x) + (py - y) * (py - y)
theorem sq0 (a : Int) : 0 ≤ a * a := by rw [← Int.natAbs_mul_self]; exact Int.natCast_nonneg _
theorem dist2_bd {x y px py : Int} (h1 : validS x y = true) (h2 : validS px py = true) : 0 ≤ (px - x) * (px - x) ∧ (px - x) * (px - x) ≤ 17592186044416 ∧ 0 ≤ (py - y) * (py - y) ∧ (py - y) * (py - y) ≤ 17592186044416 ∧ sm (px - x) ∧ sm (py - y) := by
  rw [validS_iff] at h1 h2
  have a1 : sm (px - x) := by unfold sm; omega
  have a2 : sm (py - y) := by unfold sm; omega
  have b1 := sm_mul a1 a1
  have b2 := sm_mul a2 a2
  have c1 : 0 ≤ (px - x) * (px - x) := sq0 _
  have c2 : 0 ≤ (py - y) * (py - y) := sq0 _
  exact ⟨c1, b1.2, c2, b2.2, a1, a2⟩
theorem dist2_wrap {x y px py : Int} (h1 : validS x y = true) (h2 : validS px py = true) :
    IntKind.i64.wrap (IntKind.i64.wrap (IntKind.i64.wrap (px - x) * IntKind.i64.wrap (px - x)) + IntKind.i64.wrap (IntKind.i64.wrap (py - y) * IntKind.i64.wrap (py - y))) = dist2 x y px py := by
  obtain ⟨c1, b1, c2, b2, a1, a2⟩ := dist2_bd h1 h2
  unfold sm at a1 a2
  rw [wrap_in (x := px - x) (by unfold inR; omega), wrap_in (x := py - y) (by unfold inR; omega), wrap_in (x := (px - x) * (px - x)) (by unfold inR; omega), wrap_in (x := (py - y) * (py - y)) (by unfold inR; omega), wrap_in (by unfold inR; omega)]
  rfl
theorem sq_wrap {r : Int} (h : sm r) : IntKind.i64.wrap (r * r) = r * r := by
  have := sm_mul h h
  exact wrap_in (by unfold inR; omega)
def c248 : Con
  | [.agg [.v (.int .i64 x), .v (.int .i64 y), .v (.int .i64 r)], .agg [.v (.int .i64 px), .v (.int .i64 py)]] => some ([validS x y = true, validS px py = true, sm r], bo (decide (dist2 x y px py ≤ r * r)))
  | _ => none
theorem con248 : ConOK Tryz.prog 248 c248 := ConOK.of (G := [(154, c154), (155, c155)]) (H := []) (.cons con154 (.cons con155 .nil)) Tryz.func248 fun l ob rr hc hob => by
  unfold c248 at hc
  split at hc
  · rename_i x y r px py
    cases hc
    have h1 : validS x y = true := hob _ (by simp)
    have h2 : validS px py = true := hob _ (by simp)
    have h3 : sm r := hob _ (by simp)
    refine ⟨by kernel_rfl, fnVC_go (rs := [.tmp 4]) rfl rfl ?_⟩
    simp only [go_sem, c154, c155]
    intro z hz z1 hz1 z2 hz2 z3 hz3
    subst hz hz1
    rw [hz2, hz3, dist2_wrap h1 h2, sq_wrap h3]
  · cases hc
/-- The spot is on no edge's right. -/
def inS (n : Nat) (X Y : Nat → Int) (px py : Int) : Bool := decide (∀ i, i < n → 0 ≤ turnS (X i) (Y i) (X (nxt n i)) (Y (nxt n i)) px py)
theorem inS_iff {n : Nat} {X Y : Nat → Int} {px py : Int} : inS n X Y px py = true ↔ ∀ i, i < n → 0 ≤ turnS (X i) (Y i) (X (nxt n i)) (Y (nxt n i)) px py := by unfold inS; simp
def c156 : Con
  | [.agg [.ro n 2 g], .agg [.v (.int .i64 px), .v (.int .i64 py)]] => some ([spots n g, n ≤ 9223372036854775806, ∀ i, i < n → validS (gx g 0 i) (gx g 1 i) = true, validS px py = true], bo (inS n (gx g 0) (gx g 1) px py))
  | _ => none
theorem vc156 (n : Nat) (X Y : Nat → Int) (px py : Int) (hX : ∀ i, i < n → inR (X i) ∧ inR (Y i)) (hn : n ≤ 9223372036854775806) (hv : ∀ i, i < n → validS (X i) (Y i) = true) (hp : validS px py = true) : fnVC Tryz.prog [(97, c97), (121, c121), (1000000 + 187, c187)] [] Tryz.f156 [.agg [.ro n 2 fun i => [i64 (X i), i64 (Y i)]], .agg [i64 px, i64 py]] (· = bo (inS n X Y px py)) := by
  refine fnVC_go (rs := [.cell 4 4]) rfl rfl ?_
  simp only [go_sem, c121]
  have hg : spots n fun i => [i64 (X i), i64 (Y i)] := fun i hi => ⟨rfl, hX i hi⟩
  refine rangeC_go (fun (i : Nat) => i ≤ n ∧ ∀ j, j < i → 0 ≤ turnS (X j) (Y j) (X (nxt n j)) (Y (nxt n j)) px py) (fun i => i) (fun _ => []) [2, 1, 0] [9, 10, 5, 6, 11, 12, 13, 14, 15] 0 0 (N := n) (sq := edgeE n fun i => [i64 (X i), i64 (Y i)]) (ob := [spots n fun i => [i64 (X i), i64 (Y i)], n ≤ 9223372036854775806]) rfl (by simp [hg, hn]) (by kernel_rfl) rfl (fun i _ => ⟨rfl, rfl⟩) ⟨Nat.zero_le _, fun j hj => by omega⟩ rfl ⟨[], ?_, ?_, ?_⟩ ?_ ?_
  · simp only [go_sem]
  · simp only [go_sem]
  · simp [goodNames, asg]
  · intro i hi hlt
    simp only [go_sem, edgeE, c97]
    refine fun z hz => ⟨hv i hlt, hv _ (nxt_lt hlt), hp, fun h => false_of fun hc => ?_, fun h => ⟨i + 1, ⟨by have : i < n := hlt; omega, fun j hj => ?_⟩, rfl, [], ?_⟩⟩
    · have := inS_iff.1 hc i hlt; omega
    · by_cases e : j = i
      · subst e; omega
      · exact hi.2 j (by omega)
    · simp [goodNames]
  · intro i hi he
    simp only [go_sem]
    exact (inS_iff.2 fun j hj => hi.2 j (by omega)).symm
theorem con156 : ConOK Tryz.prog 156 c156 := ConOK.go (G := [(97, c97), (121, c121), (1000000 + 187, c187)]) (H := []) (.cons con97 (.cons con121 (.seq seq187 .nil))) Tryz.func156 fun l ob rr hc hob => by
  unfold c156 at hc
  split at hc
  · rename_i n g px py
    cases hc
    have hs : spots n g := hob _ (by simp)
    refine ⟨[.agg [.ro n 2 fun i => [i64 (gx g 0 i), i64 (gx g 1 i)]], .agg [i64 px, i64 py]], fun w I vs h => Rs_two (Rs_poly hs) (fun v h => h) h, by kernel_rfl, vc156 n _ _ px py (fun i hi => (hs i hi).2) (hob _ (by simp)) (hob _ (by simp)) (hob _ (by simp))⟩
  · cases hc
/-- The form has the spot. -/
def holdsS (k x y r : Int) (n : Nat) (X Y : Nat → Int) (px py : Int) : Bool := if k = 1 then decide (dist2 x y px py ≤ r * r) else inS n X Y px py
theorem check_1 {k x y r : Int} {n : Nat} {X Y : Nat → Int} (h : checkS k x y r n X Y = 0) : (k = 1 ∨ k = 2) ∧ validS x y = true ∧ (∀ i, i < n → validS (X i) (Y i) = true) ∧ (k = 1 → 1 ≤ r ∧ r ≤ 2097152 ∧ checkBoxS (x - r) (y - r) (x + r) (y + r) = 0 ∧ n = 0) ∧ (k ≠ 1 → r = 0 ∧ n ≤ 8 ∧ convexS n X Y = true) := by
  unfold checkS at h
  split at h
  · omega
  · split at h
    · omega
    · rename_i h1 h2
      have h2 : validS x y = true ∧ ∀ i, i < n → validS (X i) (Y i) = true := Decidable.of_not_not h2
      split at h
      · rename_i h3
        split at h
        · omega
        · rename_i h4
          split at h
          · omega
          · rename_i h5
            refine ⟨.inl h3, h2.1, h2.2, fun _ => ⟨by omega, by omega, ?_, by omega⟩, fun h => absurd h3 h⟩
            by_cases e : checkBoxS (x - r) (y - r) (x + r) (y + r) = 0
            · exact e
            · exact absurd ⟨by omega, .inr e⟩ h4
      · rename_i h3
        split at h
        · omega
        · rename_i h5
          refine ⟨by omega, h2.1, h2.2, fun h => absurd h h3, fun _ => ⟨by omega, by omega, ?_⟩⟩
          cases hc : convexS n X Y
          · exact absurd (.inr (.inr hc)) h5
          · rfl
def c30 : Con
  | [.agg [.v (.int .i64 k), .v (.int .i64 x), .v (.int .i64 y), .v (.int .i64 r), .ro n 2 g], .agg [.v (.int .i64 px), .v (.int .i64 py)]] => some ([spots n g, n ≤ 9223372036854775806, inR x, inR y, inR r, inR px, inR py], bo (decide (checkS k x y r n (gx g 0) (gx g 1) = 0) && validS px py && holdsS k x y r n (gx g 0) (gx g 1) px py))
  | _ => none
theorem con30 : ConOK Tryz.prog 30 c30 := ConOK.of (G := [(70, c70), (76, c76), (156, c156), (248, c248)]) (H := []) (.cons con70 (.cons con76 (.cons con156 (.cons con248 .nil)))) Tryz.func30 fun l ob rr hc hob => by
  unfold c30 at hc
  split at hc
  · rename_i k x y r n g px py
    cases hc
    have hs : spots n g := hob _ (by simp)
    have hn : n ≤ 9223372036854775806 := hob _ (by simp)
    have hx : inR x := hob _ (by simp)
    have hy : inR y := hob _ (by simp)
    have hr : inR r := hob _ (by simp)
    have hpx : inR px := hob _ (by simp)
    have hpy : inR py := hob _ (by simp)
    refine ⟨by kernel_rfl, fnVC_go (rs := [.tmp 4]) rfl rfl ?_⟩
    simp only [go_sem, c70, c76, c156, c248]
    have hfa : fairS 1 (gx (rowsOf 2 [AV.v (Value.int IntKind.i64 px), AV.v (Value.int IntKind.i64 py)]) 0) (gx (rowsOf 2 [AV.v (Value.int IntKind.i64 px), AV.v (Value.int IntKind.i64 py)]) 1) = validS px py := fair1 rfl
    have hsp : spots 1 (rowsOf 2 [AV.v (Value.int IntKind.i64 px), AV.v (Value.int IntKind.i64 py)]) := spots1 rfl hpx hpy
    rw [hfa]
    refine ⟨fun hc => ?_, fun hc => ?_⟩
    · obtain ⟨hk, v1, v2, h1, h2⟩ := check_1 hc
      refine ⟨fun hk1 => ⟨hs, hn, hx, hy, hr, fun z hz => ⟨fun _ => hsp, fun z1 hz1 => ⟨fun _ => v1, fun h => by rw [← hz]; exact h, fun _ => by have := h1 hk1; unfold sm; omega, ?_⟩⟩⟩,
        fun hk1 => ⟨hs, hn, hx, hy, hr, fun z hz => ⟨fun _ => hsp, fun z1 hz1 => ⟨fun _ => hs, fun _ => hn, fun _ => v2, fun h => by rw [← hz]; exact h, ?_⟩⟩⟩⟩
      · rw [hz, hz1]; unfold holdsS; rw [if_pos hk1, decide_eq_true hc]; rfl
      · rw [hz, hz1]; unfold holdsS; rw [if_neg hk1, decide_eq_true hc]; rfl
    · rw [decide_eq_false hc]
      refine ⟨hs, hn, hx, hy, hr, fun z hz => ⟨fun h => h.elim, fun h => h.elim, ?_⟩⟩
      simp
  · cases hc
theorem vc77 (k x y r : Int) (n : Nat) (X Y : Nat → Int) (px py : Int) (hc : checkS k x y r n X Y = 0) (hp : validS px py = true) (hn : n ≤ 9223372036854775806) : fnVC Tryz.prog [(100, c100), (81, c81), (91, c155)] [] Tryz.f77 [formA k x y r n fun i => [i64 (X i), i64 (Y i)], .agg [i64 px, i64 py]] (· = bo (holdsS k x y r n X Y px py)) := by
  refine fnVC_go (rs := [.tmp 4]) rfl rfl ?_
  simp only [go_sem, c81, c155]
  obtain ⟨hk, v1, v2, h1, h2⟩ := check_1 hc
  refine ⟨fun hk1 z hz z1 hz1 z2 hz2 z3 hz3 => ?_, fun hk1 => ?_⟩
  · have hk1 : k = 1 := by simpa using hk1
    subst hz hz1
    rw [hz2, hz3, dist2_wrap v1 hp, sq_wrap (by have := h1 hk1; unfold sm; omega)]
    unfold holdsS; rw [if_pos hk1]
  have hk1 : k ≠ 1 := by simpa using hk1
  have h3 := (convexS_iff.1 (h2 hk1).2.2).1
  have eh : holdsS k x y r n X Y px py = inS n X Y px py := by unfold holdsS; rw [if_neg hk1]
  rw [eh]
  refine loopC_go (fun (i : Nat) => i ≤ n ∧ ∀ j, j < i → 0 ≤ turnS (X j) (Y j) (X (nxt n j)) (Y (nxt n j)) px py) (fun i => n - i) (fun i => [(6, i64 i)]) (fun _ => []) [1, 0] [23, 24, 25, 26, 27, 30, 31, 32, 33, 34, 35, 36, 37, 38, 39, 40, 41, 42, 43, 44, 45, 46, 47, 4, 28, 29, 6] 0 (by kernel_rfl) ?_ ⟨Nat.zero_le _, fun j hj => by omega⟩ ?_ ?_
  · intro x _; simp [goodNames]
  · simp only [go_sem]
  · intro i hi
    have hn0 : ((n : Int) = 0) = False := eq_false (by omega)
    simp only [go_sem, hn0, c100]
    have ei : i < n → IntKind.i64.wrap ((i : Int) + 1) = i + 1 := fun h => wrap_in (by unfold inR; omega)
    refine ⟨fun hin => ?_, fun hin => (inS_iff.2 fun j hj => hi.2 j (by omega)).symm⟩
    have hin' : i < n := by omega
    refine ⟨by omega, hin, fun z hz z1 hz1 => ?_⟩
    rw [hz, ei hin', tmod_nxt hin'] at hz1
    have hnl := nxt_lt hin'
    subst hz1
    have es : sideS (X i) (Y i) (X (nxt n i)) (Y (nxt n i)) px py < 0 ↔ turnS (X i) (Y i) (X (nxt n i)) (Y (nxt n i)) px py < 0 := by
      unfold sideS
      rw [if_pos ⟨v2 i hin', v2 _ hnl, hp⟩]
      split
      · omega
      · split <;> omega
    refine ⟨by omega, by omega, fun z2 hz2 => ?_⟩
    simp only [Int.toNat_natCast] at hz2
    refine ⟨fun h => false_of fun hc => ?_, fun h z3 hz3 => ⟨i + 1, ⟨by omega, fun j hj => ?_⟩, by omega, ?_⟩⟩
    · have := inS_iff.1 hc i hin'
      rw [hz2] at h
      have := es.1 h
      omega
    · by_cases e : j = i
      · subst e
        rw [hz2] at h
        have : ¬ turnS (X j) (Y j) (X (nxt n j)) (Y (nxt n j)) px py < 0 := fun a => h (es.2 a)
        omega
      · exact hi.2 j (by omega)
    · rw [hz3, ei hin']; rfl
def c77 : Con
  | [.agg [.v (.int .i64 k), .v (.int .i64 x), .v (.int .i64 y), .v (.int .i64 r), .ro n 2 g], .agg [.v (.int .i64 px), .v (.int .i64 py)]] => some ([spots n g, n ≤ 9223372036854775806, checkS k x y r n (gx g 0) (gx g 1) = 0, validS px py = true], bo (holdsS k x y r n (gx g 0) (gx g 1) px py))
  | _ => none
theorem con77 : ConOK Tryz.prog 77 c77 := ConOK.go (G := [(100, c100), (81, c81), (91, c155)]) (H := []) (.cons con100 (.cons con81 (.cons con91 .nil))) Tryz.func77 fun l ob rr hc hob => by
  unfold c77 at hc
  split at hc
  · rename_i k x y r n g px py
    cases hc
    have hs : spots n g := hob _ (by simp)
    exact ⟨[formA k x y r n fun i => [i64 (gx g 0 i), i64 (gx g 1 i)], .agg [i64 px, i64 py]], fun w I vs h => Rs_two (Rs_form hs) (fun v h => h) h, by kernel_rfl, vc77 k x y r n _ _ px py (hob _ (by simp)) (hob _ (by simp)) (hob _ (by simp))⟩
  · cases hc
end Go.Ax
end

section
/-
  Forms: their boxes; the law of spots in forms.
-/
set_option linter.unusedVariables false
set_option linter.unusedSimpArgs false
set_option maxHeartbeats 2000000
set_option maxRecDepth 100000
namespace Go.Ax
open Go.Proofs

def c247 : Con
  | [.agg [.v (.int .i64 x), .v (.int .i64 y), .v (.int .i64 r)]] => some ([], .agg [i64 (IntKind.i64.wrap (x - r)), i64 (IntKind.i64.wrap (y - r)), i64 (IntKind.i64.wrap (x + r)), i64 (IntKind.i64.wrap (y + r))])
  | _ => none
theorem con247 : ConOK Tryz.prog 247 c247 := ConOK.of (G := [(71, c71)]) (H := []) (.cons con71 .nil) Tryz.func247 fun l ob r hc hob => by
  unfold c247 at hc
  split at hc
  · cases hc
    refine ⟨by kernel_rfl, fnVC_go (rs := [.cell 2 58]) rfl rfl ?_⟩
    simp only [go_sem, c71]
    intro z h z1 h1 z2 h2 z3 h3
    subst h h1 h2 h3
    rfl
  · cases hc
/-- The box of some spots. -/
def bxS (n : Nat) (X Y : Nat → Int) : Nat → Int
  | 0 => mnS X n
  | 1 => mnS Y n
  | 2 => mxS X n
  | _ => mxS Y n
/-- The first i values. -/
def upto (i : Nat) (Z : Nat → Int) (j : Nat) : Int := if j < i then Z j else 0
theorem upto_zero {Z : Nat → Int} {j : Nat} : upto 0 Z j = 0 := by unfold upto; rw [if_neg (by omega)]
theorem upto_self {i : Nat} {Z : Nat → Int} : upto (i + 1) Z i = Z i := by unfold upto; rw [if_pos (by omega)]
theorem upto_lt {i j : Nat} {Z : Nat → Int} (h : j < i) : upto i Z j = Z j := by unfold upto; rw [if_pos h]
theorem upto_ne {i j : Nat} {Z : Nat → Int} (h : j ≠ i) : upto (i + 1) Z j = upto i Z j := by
  unfold upto
  by_cases e : j < i
  · rw [if_pos e, if_pos (by omega)]
  · rw [if_neg e, if_neg (by omega)]
theorem mnS_upto {Z : Nat → Int} : ∀ {n m : Nat}, n ≤ m → mnS (upto m Z) n = mnS Z n
  | 0, m, _ => rfl
  | n + 1, m, h => by
    simp only [mnS]
    rw [mnS_upto (Z := Z) (n := n) (by omega), upto_lt (i := m) (j := n) (by omega), upto_lt (i := m) (j := 0) (by omega)]
theorem mxS_upto {Z : Nat → Int} : ∀ {n m : Nat}, n ≤ m → mxS (upto m Z) n = mxS Z n
  | 0, m, _ => rfl
  | n + 1, m, h => by
    simp only [mxS]
    rw [mxS_upto (Z := Z) (n := n) (by omega), upto_lt (i := m) (j := n) (by omega), upto_lt (i := m) (j := 0) (by omega)]
def c252 : Con
  | [.agg [.ro n 2 g]] => some ([spots n g, n ≤ 1000, ∀ i, i < n → validS (gx g 0 i) (gx g 1 i) = true], .agg [i64 (bxS n (gx g 0) (gx g 1) 0), i64 (bxS n (gx g 0) (gx g 1) 1), i64 (bxS n (gx g 0) (gx g 1) 2), i64 (bxS n (gx g 0) (gx g 1) 3)])
  | _ => none
theorem vc252 (n : Nat) (X Y : Nat → Int) (hX : ∀ i, i < n → inR (X i) ∧ inR (Y i)) (hn : n ≤ 1000) (hv : ∀ i, i < n → validS (X i) (Y i) = true) : fnVC Tryz.prog [(49, c49), (71, c71)] [] Tryz.f252 [.agg [.ro n 2 fun i => [i64 (X i), i64 (Y i)]]] (· = .agg [i64 (bxS n X Y 0), i64 (bxS n X Y 1), i64 (bxS n X Y 2), i64 (bxS n X Y 3)]) := by
  refine fnVC_go (rs := [.cell 2 58]) rfl rfl ?_
  simp only [go_sem]
  refine ⟨by omega, by omega, by rw [show bytesT Tryz.prog 58 = 32 by kernel_rfl]; omega, ?_⟩
  refine loopC_go (fun (i : Nat) => i ≤ n) (fun i => n - i) (fun i => [(13, i64 i)]) (fun i => [(5, famN n 4 58 (fun j => [i64 (upto i X j), i64 (upto i Y j), i64 (upto i X j), i64 (upto i Y j)]) none)]) [1, 0] [14, 15, 16, 17, 5, 4, 18, 19, 20, 21, 22, 23, 13] 0 (by kernel_rfl) ?_ (Nat.zero_le _) ?_ ?_
  · intro x _; simp [goodNames, asg]
  · simp only [go_sem, upto_zero, implies_true]
  · intro i hi
    simp only [go_sem, c49, c71]
    refine ⟨fun hin => ?_, fun hin => ?_⟩
    · have hin' : i < n := by omega
      have v := validS_iff.1 (hv i hin')
      refine ⟨by omega, hin, fun z hz z1 hz1 z2 hz2 z3 hz3 => ⟨by omega, hin, hin', fun z4 hz4 => ⟨i + 1, by omega, by omega, ?_, fun j hj => ?_⟩⟩⟩
      · rw [hz4, wrap_in (by unfold inR; omega)]; rfl
      · rw [wrap_in (by unfold inR; omega)] at hz hz1 hz2 hz3
        by_cases e : j = i
        · subst e
          rw [if_pos rfl]
          simp only [go_sem, upto_self]
          omega
        · rw [if_neg e]
          have : ∀ Z, upto (i + 1) Z j = upto i Z j := fun Z => upto_ne e
          simp only [go_sem, this]
    · have e : i = n := by omega
      subst e
      have ok : okB i (upto i X) (upto i Y) (upto i X) (upto i Y) := fun j hj => by
        rw [upto_lt hj, upto_lt hj]
        have v := validS_iff.1 (hv j hj)
        unfold checkBoxS
        rw [if_pos ⟨hv j hj, hv j hj⟩, if_neg (by omega)]
      have hb : boxes i (fun j => [i64 (upto i X j), i64 (upto i Y j), i64 (upto i X j), i64 (upto i Y j)]) := fun j hj => by
        simp only [gx, gi_0, gi_1, gi_2, gi_3, upto_lt hj]
        exact ⟨trivial, (hX j hj).1, (hX j hj).2, (hX j hj).1, (hX j hj).2⟩
      obtain ⟨j1, j2, j3, j4⟩ := joinS_ok ok
      intro z hz z1 hz1 z2 hz2 z3 hz3
      have hz : z = joinS i (upto i X) (upto i Y) (upto i X) (upto i Y) 0 := hz
      have hz1 : z1 = joinS i (upto i X) (upto i Y) (upto i X) (upto i Y) 1 := hz1
      have hz2 : z2 = joinS i (upto i X) (upto i Y) (upto i X) (upto i Y) 2 := hz2
      have hz3 : z3 = joinS i (upto i X) (upto i Y) (upto i X) (upto i Y) 3 := hz3
      rw [j1, mnS_upto (Nat.le_refl _)] at hz
      rw [j2, mnS_upto (Nat.le_refl _)] at hz1
      rw [j3, mxS_upto (Nat.le_refl _)] at hz2
      rw [j4, mxS_upto (Nat.le_refl _)] at hz3
      subst hz hz1 hz2 hz3
      exact ⟨hb, by omega, rfl⟩
theorem con252 : ConOK Tryz.prog 252 c252 := ConOK.go (G := [(49, c49), (71, c71)]) (H := []) (.cons con49 (.cons con71 .nil)) Tryz.func252 fun l ob r hc hob => by
  unfold c252 at hc
  split at hc
  · rename_i n g
    cases hc
    have hs : spots n g := hob _ (by simp)
    exact ⟨[.agg [.ro n 2 fun i => [i64 (gx g 0 i), i64 (gx g 1 i)]]], fun w I vs h => Rs_one (Rs_poly hs) h, by kernel_rfl, vc252 n _ _ (fun i hi => (hs i hi).2) (hob _ (by simp)) (hob _ (by simp))⟩
  · cases hc

/-- The box of a form. -/
def boxS (k x y r : Int) (n : Nat) (X Y : Nat → Int) (q : Nat) : Int :=
  if checkS k x y r n X Y = 0 then (if k = 1 then (match q with
    | 0 => x - r
    | 1 => y - r
    | 2 => x + r
    | _ => y + r) else bxS n X Y q) else 0
def c28 : Con
  | [.agg [.v (.int .i64 k), .v (.int .i64 x), .v (.int .i64 y), .v (.int .i64 r), .ro n 2 g]] => some ([spots n g, n ≤ 9223372036854775806, inR x, inR y, inR r], .agg [i64 (boxS k x y r n (gx g 0) (gx g 1) 0), i64 (boxS k x y r n (gx g 0) (gx g 1) 1), i64 (boxS k x y r n (gx g 0) (gx g 1) 2), i64 (boxS k x y r n (gx g 0) (gx g 1) 3)])
  | _ => none
theorem boxS_disc {k x y r : Int} {n : Nat} {X Y : Nat → Int} {q : Nat} (hc : checkS k x y r n X Y = 0) (hk : k = 1) : boxS k x y r n X Y q = match q with
    | 0 => x - r
    | 1 => y - r
    | 2 => x + r
    | _ => y + r := by unfold boxS; rw [if_pos hc, if_pos hk]
theorem boxS_poly {k x y r : Int} {n : Nat} {X Y : Nat → Int} {q : Nat} (hc : checkS k x y r n X Y = 0) (hk : k ≠ 1) : boxS k x y r n X Y q = bxS n X Y q := by unfold boxS; rw [if_pos hc, if_neg hk]
theorem boxS_none {k x y r : Int} {n : Nat} {X Y : Nat → Int} {q : Nat} (hc : ¬ checkS k x y r n X Y = 0) : boxS k x y r n X Y q = 0 := by unfold boxS; rw [if_neg hc]
theorem con28 : ConOK Tryz.prog 28 c28 := ConOK.of (G := [(76, c76), (252, c252), (247, c247)]) (H := []) (.cons con76 (.cons con252 (.cons con247 .nil))) Tryz.func28 fun l ob rr hc hob => by
  unfold c28 at hc
  split at hc
  · rename_i k x y r n g
    cases hc
    have hs : spots n g := hob _ (by simp)
    have hn : n ≤ 9223372036854775806 := hob _ (by simp)
    have hx : inR x := hob _ (by simp)
    have hy : inR y := hob _ (by simp)
    have hr : inR r := hob _ (by simp)
    refine ⟨by kernel_rfl, fnVC_go (rs := [.cell 2 58]) rfl rfl ?_⟩
    simp only [go_sem, c76, c252, c247]
    refine ⟨fun hc => ?_, fun hc => ⟨hs, hn, hx, hy, hr, fun h => h.elim, fun _ => by simp only [boxS_none hc]⟩⟩
    obtain ⟨hk, v1, v2, h1, h2⟩ := check_1 hc
    refine ⟨fun hk1 => ⟨hs, hn, hx, hy, hr, fun _ z hz z1 hz1 z2 hz2 z3 hz3 => ?_, fun h => by cases h⟩, fun hk1 => ⟨hs, hn, hx, hy, hr, fun _ z hz z1 hz1 z2 hz2 z3 hz3 => ⟨hs, by have := h2 hk1; omega, v2, ?_⟩, fun h => by cases h⟩⟩
    · have h1 := h1 hk1
      have v := validS_iff.1 v1
      rw [wrap_in (by unfold inR; omega)] at hz hz1 hz2 hz3
      simp only [boxS_disc hc hk1]
      rw [hz, hz1, hz2, hz3]
    · simp only [boxS_poly hc hk1]
      rw [hz, hz1, hz2, hz3]
  · cases hc
theorem mn_bd {Z : Nat → Int} {B : Int} : ∀ {i : Nat}, (∀ j, j < i → -B ≤ Z j ∧ Z j ≤ B) → 1 ≤ i → -B ≤ mnS Z i ∧ mnS Z i ≤ mxS Z i ∧ mxS Z i ≤ B
  | 0, _, h => by omega
  | i + 1, h, _ => by
    have h0 := h 0 (by omega)
    have hi := h i (by omega)
    simp only [mnS, mxS]
    by_cases e : i = 0
    · rw [if_pos e, if_pos e]; omega
    · rw [if_neg e, if_neg e]
      have := mn_bd (Z := Z) (B := B) (i := i) (fun j hj => h j (by omega)) (by omega)
      omega
theorem sameF_self {k x y r : Int} {n : Nat} {g : Nat → List AV} : sameF k x y r n g k x y r n g = true := by unfold sameF; simp
end Go.Ax
end

section
/-
  Sums of vectors, the reference's.
-/
set_option linter.unusedVariables false
set_option linter.unusedSimpArgs false
set_option maxHeartbeats 4000000
set_option maxRecDepth 100000
namespace Go.Ax
open Go.Proofs
/-! ### Rows that have names, several -/
section
variable {N M q : Nat} {σ : Names} {m rows : Mem} {x : Fam} {a b : AV} {n sz f k r : Nat} {ty : TypeId} {get : Nat → List AV}
def emptyF (x : Fam) : Prop := ∀ f, (x f).n = 0 ∧ (x f).g = none
def fitQ (N M : Nat) (σ : Names) (m : Mem) (x : Fam) : Option Nat → Prop
  | some k => fitF N M σ x (look m k)
  | none => emptyF x
theorem fitRows_z : fitRows N M σ m [] = True := (rfl)
theorem fitRows_c : fitRows N M σ m ((q, x) :: rows) = (fitQ N M σ m x (asg σ q) ∧ fitRows N M σ m rows) := by
  show ((match asg σ q with
    | some k => ∃ y, look m k = some y ∧ ∀ f, fitRow N M σ (x f) (y f)
    | none => ∀ f, (x f).n = 0 ∧ (x f).g = none) ∧ _) = _
  unfold fitQ fitF emptyF
  cases asg σ q with
  | none => rfl
  | some k => cases h : look m k <;> simp [h]
theorem fitQ_some : fitQ N M σ m x (some k) = fitF N M σ x (look m k) := (rfl)
theorem fitQ_none : fitQ N M σ m x none = emptyF x := (rfl)
theorem emptyF_N : emptyF (famN n sz ty get none) = (n = 0) := by
  unfold emptyF
  apply propext
  constructor
  · intro h; have := (h 0).1; simpa [famN] using this
  · intro h f
    subst h
    unfold famN
    split <;> exact ⟨rfl, rfl⟩
def ownA (f n sz : Nat) (a : AV) : Option Nat → Prop
  | some k => a = .own k f n sz
  | none => n = 0 ∧ a = .v (.slice none 0 0)
theorem fit1_ownA : fit1 N M σ (.own q f n sz) a = (q < M ∧ ownA f n sz a (asg σ q)) := by
  simp only [fit1, ownA]
  cases asg σ q <;> rfl
theorem ownA_some : ownA f n sz (.own r f k sz) (some r) = (k = n) := by simp [ownA]
theorem ownA_none : ownA f n sz (.v (.slice none 0 0)) none = (n = 0) := by simp [ownA]
theorem asg_z : asg [] r = some r := (rfl)
theorem asg_c {y : Option Nat} : asg ((k, y) :: σ) r = if k = r then y else asg σ r := (rfl)
end
attribute [go_sem] fitRows_z fitRows_c fitQ_some fitQ_none emptyF_N fit1_ownA ownA_some ownA_none asg_z asg_c
def c138 : Con
  | [.ro n 4 g] => some ([vecs n g, n ≤ 1000], ve (su1 n (gx g 0) (gb g 1)) (su1 n (gx g 2) (gb g 3)))
  | _ => none
theorem vc138 (n : Nat) (X Y : Nat → Int) (E F : Nat → Bool) (hX : ∀ i, i < n → inR (X i) ∧ inR (Y i)) (hn : n ≤ 1000) : fnVC Tryz.prog [(110, c110)] [(5, ⟨[(7, .slot 3)], [(13, [.slot 3]), (14, [.slot 3])]⟩)] Tryz.f138 [.ro n 4 fun i => [i64 (X i), bo (E i), i64 (Y i), bo (F i)]] (· = ve (su1 n X E) (su1 n Y F)) := by
  refine fnVC_go (rs := [.cell 2 28]) rfl rfl ?_
  simp only [go_sem]
  refine loopN_go (fun (i : Nat) => i ≤ n) (fun i => n - i) (fun i => [(5, i64 i), (3, .own 4 0 i 2), (4, .own 5 0 i 2)]) (fun i => [(4, famN i 2 26 (fun k => [i64 (X k), bo (E k)]) none), (5, famN i 2 26 (fun k => [i64 (Y k), bo (F k)]) none)]) [0] [6, 7, 8, 9, 12, 13, 14, 15, 16, 17, 18, 19, 20, 21, 22, 23, 24, 25, 26, 27, 3, 4, 10, 11, 5] 2 0 (by kernel_rfl) (Nat.zero_le _) ⟨[(4, none), (5, none)], ?_, ?_, ?_, ?_⟩ ?_
  · simp only [go_sem]
  · simp only [go_sem]
  · simp only [go_sem]
  · simp [goodNames, asg]
  intro i hi
  simp only [go_sem, c110]
  have hb : bytesT Tryz.prog 26 = 16 := by kernel_rfl
  rw [hb]
  refine ⟨fun h => ⟨by omega, h, by omega, by omega, by omega, h, by omega, by omega, fun z hz => ⟨i + 1, by omega, by omega, [(4, some 17), (5, some 25)], ?_⟩⟩, fun h => ?_⟩
  · simp only [go_sem]
    refine ⟨by rw [hz, wrap_in (by unfold inR; omega)]; rfl, ⟨fun k hk => ?_, fun k hk => ?_⟩, by simp [goodNames, asg]⟩
    · by_cases e : k < i
      · rw [if_pos e]; simp only [go_sem]
      · have e : k = i := by omega
        subst e
        rw [if_neg (by omega), Nat.sub_self]
        simp only [Nat.zero_mul, go_sem]
    · by_cases e : k < i
      · rw [if_pos e]; simp only [go_sem]
      · have e : k = i := by omega
        subst e
        rw [if_neg (by omega), Nat.sub_self]
        simp only [Nat.zero_mul, go_sem]
  · have e : i = n := by omega
    subst e
    have hx : ∀ j, j < i → (fun j => [i64 (X j), bo (E j)]) j = [i64 (X j), bo (E j)] := fun j hj => rfl
    have hy : ∀ j, j < i → (fun j => [i64 (Y j), bo (F j)]) j = [i64 (Y j), bo (F j)] := fun j hj => rfl
    obtain ⟨e1, e2⟩ := wvS_up hx
    obtain ⟨e3, e4⟩ := wvS_up hy
    simp only [forall_eq, e1, e2, e3, e4]
    exact ⟨nums_up hx fun j hj => (hX j hj).1, hn, nums_up hy fun j hj => (hX j hj).2, hn, rfl⟩
theorem con138 : ConOK Tryz.prog 138 c138 := ConOK.go (G := [(110, c110)]) (H := [(5, ⟨[(7, .slot 3)], [(13, [.slot 3]), (14, [.slot 3])]⟩)]) (.cons con110 .nil) Tryz.func138 fun l ob r hc hob => by
  unfold c138 at hc
  split at hc
  · rename_i n g
    cases hc
    have hs : vecs n g := hob _ (by simp)
    exact ⟨[.ro n 4 fun i => [i64 (gx g 0 i), bo (gb g 1 i), i64 (gx g 2 i), bo (gb g 3 i)]], fun w I vs h => Rs_one (fun v => ro_alike fun i hi => (hs i hi).1) h, by kernel_rfl, vc138 n _ _ _ _ (fun i hi => (hs i hi).2) (hob _ (by simp))⟩
  · cases hc
end Go.Ax
end

section
/-
  Rays.
-/
set_option linter.unusedVariables false
set_option linter.unusedSimpArgs false
set_option maxHeartbeats 4000000
set_option maxRecDepth 100000
namespace Go.Ax
open Go.Proofs
def nSq (a : Nb) : Nb := (sqV (whV a.1), sqF (whV a.1) (whF a.1 a.2))
def nCl (x l h : Nb) : Nb := (max (whV l.1) (min (whV x.1) (whV h.1)), whF l.1 l.2 || (whF x.1 x.2 || whF h.1 h.2))
theorem su_rows {a b c d : Int} {e f p q : Bool} : su1 2 (gx (rowsOf 4 [i64 a, bo e, i64 b, bo f, i64 c, bo p, i64 d, bo q]) 0) (gb (rowsOf 4 [i64 a, bo e, i64 b, bo f, i64 c, bo p, i64 d, bo q]) 1) = nAdd (a, e) (c, p) := su2x rfl rfl
theorem su_rows2 {a b c d : Int} {e f p q : Bool} : su1 2 (gx (rowsOf 4 [i64 a, bo e, i64 b, bo f, i64 c, bo p, i64 d, bo q]) 2) (gb (rowsOf 4 [i64 a, bo e, i64 b, bo f, i64 c, bo p, i64 d, bo q]) 3) = nAdd (b, f) (d, q) := su2y rfl rfl
theorem sqV_rg {v : Int} : rg (sqV v) := by
  unfold sqV; split
  · unfold rg; omega
  · exact ftV_rg _
theorem inR_neg {v : Int} (h : inR v) : inR (-whV v) := by have := whV_rg h; unfold rg at this; unfold inR; omega
theorem nPos_rg {a : Nb} (h : inR a.1) : rg (nPos a).1 := by
  have := whV_rg h
  unfold nPos rg at *; dsimp only; split <;> omega
theorem inR_cl {v : Int} (h : inR v) : inR (max (whV 0) (min (whV v) (whV (nInt 1).1))) := by
  have h1 := whV_rg h
  have h2 : rg (whV (nInt 1).1) := whV_rg (rg_inR nInt_rg)
  have h3 : whV 0 = 0 := by decide
  rw [h3]
  unfold rg at *; unfold inR; omega
/-- A disc's hit: is it, when, in which direction. -/
def dmT (mx my sx sy r : Int) : Nb :=
  let u := (unS (nRat sx 256).1 (nRat sx 256).2 (nRat sy 256).1 (nRat sy 256).2).2
  let h := nDot u.1 (nRat my 256) (nNeg u.2) (nRat mx 256)
  let s := nSq (nPos (nSub (nMul (nRat r 256) (nRat r 256)) (nMul h h)))
  nCl (nDiv (nSub (nNeg (nDot u.1 (nRat mx 256) u.2 (nRat my 256))) s) (nHyp (nRat sx 256) (nRat sy 256))) (0, false) (nInt 1)
def dmN (mx my sx sy r : Int) : Nb × Nb :=
  let t := dmT mx my sx sy r
  let a := nAdd (nRat mx 256) (nMul (nRat sx 256) t)
  let b := nAdd (nRat my 256) (nMul (nRat sy 256) t)
  (unS a.1 a.2 b.1 b.2).2
def dmB (x y r fx fy tx ty : Int) : Prop := ¬ dist2 x y tx ty ≤ r * r ∧ ((0 ≤ (fx - x) * (tx - fx) + (fy - y) * (ty - fy) ∨ (tx - fx) * (tx - fx) + (ty - fy) * (ty - fy) ≤ -((fx - x) * (tx - fx) + (fy - y) * (ty - fy))) ∨
  ((fx - x) * (tx - fx) + (fy - y) * (ty - fy)) * ((fx - x) * (tx - fx) + (fy - y) * (ty - fy)) < ((tx - fx) * (tx - fx) + (ty - fy) * (ty - fy)) * ((fx - x) * (fx - x) + (fy - y) * (fy - y) - r * r))
end Go.Ax
end

section
/-
  Numbers and vectors ars they are computed with: contracts whose results are whole numbers and whole vectors; the reference's vectors.
-/
set_option linter.unusedVariables false
set_option linter.unusedSimpArgs false
set_option maxHeartbeats 4000000
set_option maxRecDepth 100000
namespace Go.Ax
open Go.Proofs
abbrev V2 := Nb × Nb
def nbA (a : Nb) : AV := .agg [i64 a.1, bo a.2]
def veA (a : V2) : AV := .agg [i64 a.1.1, bo a.1.2, i64 a.2.1, bo a.2.2]
def unA (u : Bool × V2) : AV := .tup [.agg [i64 u.2.1.1, bo u.2.1.2, i64 u.2.2.1, bo u.2.2.2], bo u.1]
theorem bnd_nb {a : Nb} : bnd (nbA a) = .agg [i64 a.1, bo a.2] := (rfl)
theorem bnd_ve {a : V2} : bnd (veA a) = .agg [i64 a.1.1, bo a.1.2, i64 a.2.1, bo a.2.2] := (rfl)
theorem bnd_un {u : Bool × V2} : bnd (unA u) = .tup [.agg [i64 u.2.1.1, bo u.2.1.2, i64 u.2.2.1, bo u.2.2.2], bo u.1] := (rfl)
theorem plain_nb {a : Nb} : plain 3 (nbA a) = true := (rfl)
theorem plain_ve {a : V2} : plain 3 (veA a) = true := (rfl)
theorem plain_un {u : Bool × V2} : plain 3 (unA u) = true := (rfl)
theorem etaN {a : Nb} : (a.1, a.2) = a := (rfl)
theorem etaV {a : V2} : (a.1, a.2) = a := (rfl)
theorem gx_rows1 {a b : Int} {e f : Bool} : gx (rowsOf 2 [i64 a, bo e, i64 b, bo f]) 0 0 = a := (rfl)
theorem gx_rows2 {a b : Int} {e f : Bool} : gx (rowsOf 2 [i64 a, bo e, i64 b, bo f]) 0 1 = b := (rfl)
theorem gb_rows1 {a b : Int} {e f : Bool} : gb (rowsOf 2 [i64 a, bo e, i64 b, bo f]) 1 0 = e := (rfl)
theorem gb_rows2 {a b : Int} {e f : Bool} : gb (rowsOf 2 [i64 a, bo e, i64 b, bo f]) 1 1 = f := (rfl)
section
variable {a b c d : Int} {e f p q : Bool}
theorem gx4_1 : gx (rowsOf 4 [i64 a, bo e, i64 b, bo f, i64 c, bo p, i64 d, bo q]) 0 0 = a := (rfl)
theorem gx4_2 : gx (rowsOf 4 [i64 a, bo e, i64 b, bo f, i64 c, bo p, i64 d, bo q]) 2 0 = b := (rfl)
theorem gx4_3 : gx (rowsOf 4 [i64 a, bo e, i64 b, bo f, i64 c, bo p, i64 d, bo q]) 0 1 = c := (rfl)
theorem gx4_4 : gx (rowsOf 4 [i64 a, bo e, i64 b, bo f, i64 c, bo p, i64 d, bo q]) 2 1 = d := (rfl)
theorem gb4_1 : gb (rowsOf 4 [i64 a, bo e, i64 b, bo f, i64 c, bo p, i64 d, bo q]) 1 0 = e := (rfl)
theorem gb4_2 : gb (rowsOf 4 [i64 a, bo e, i64 b, bo f, i64 c, bo p, i64 d, bo q]) 3 0 = f := (rfl)
theorem gb4_3 : gb (rowsOf 4 [i64 a, bo e, i64 b, bo f, i64 c, bo p, i64 d, bo q]) 1 1 = p := (rfl)
theorem gb4_4 : gb (rowsOf 4 [i64 a, bo e, i64 b, bo f, i64 c, bo p, i64 d, bo q]) 3 1 = q := (rfl)
theorem vecs_rows : vecs 2 (rowsOf 4 [i64 a, bo e, i64 b, bo f, i64 c, bo p, i64 d, bo q]) = (inR a ∧ inR b ∧ inR c ∧ inR d) := by
  apply propext
  constructor
  · intro h; exact ⟨(h 0 (by omega)).2.1, (h 0 (by omega)).2.2, (h 1 (by omega)).2.1, (h 1 (by omega)).2.2⟩
  · rintro ⟨h1, h2, h3, h4⟩; exact vecs2 rfl rfl h1 h2 h3 h4
theorem nums_rows : nums 2 (rowsOf 2 [i64 a, bo e, i64 b, bo f]) = (inR a ∧ inR b) := by
  apply propext
  constructor
  · intro h; exact ⟨(h 0 (by omega)).2, (h 1 (by omega)).2⟩
  · rintro ⟨h1, h2⟩; exact nums2 rfl rfl h1 h2
theorem vecs_row1 : vecs 1 (rowsOf 4 [i64 a, bo e, i64 b, bo f]) = (inR a ∧ inR b) := by
  apply propext
  constructor
  · intro h; exact ⟨(h 0 (by omega)).2.1, (h 0 (by omega)).2.2⟩
  · rintro ⟨h1, h2⟩; exact vecs1 rfl h1 h2
theorem nums_row1 : nums 1 (rowsOf 2 [i64 a, bo e]) = inR a := by
  apply propext
  constructor
  · intro h; exact (h 0 (by omega)).2
  · intro h; exact nums1 rfl h
end
def nAbs (a : Nb) : Nb := (ab (whV a.1), whF a.1 a.2)
def nMx (a b : Nb) : Nb := (if whV a.1 < whV b.1 then whV b.1 else whV a.1, whF a.1 a.2 || whF b.1 b.2)
def nMn (a b : Nb) : Nb := (if whV b.1 < whV a.1 then whV b.1 else whV a.1, whF a.1 a.2 || whF b.1 b.2)
def vLoc (x y : Int) : V2 := (nRat x 256, nRat y 256)
def vAdd (a b : V2) : V2 := (nAdd a.1 b.1, nAdd a.2 b.2)
def vSub (a b : V2) : V2 := (nSub a.1 b.1, nSub a.2 b.2)
def vScale (v : V2) (k : Nb) : V2 := (nMul v.1 k, nMul v.2 k)
def vDot (a b : V2) : Nb := nDot a.1 b.1 a.2 b.2
def vCross (a b : V2) : Nb := nDot a.1 b.2 (nNeg a.2) b.1
def vLen (a : V2) : Nb := nHyp a.1 a.2
def vOf (x y : Int) : V2 := (nInt x, nInt y)
def vUnit (v : V2) : Bool × V2 := unS v.1.1 v.1.2 v.2.1 v.2.2
def vApply (r v : V2) : V2 := (nDot r.1 v.1 (nNeg r.2) v.2, nDot r.2 v.1 r.1 v.2)
def vNorm (a b c d : Int) : V2 := (vUnit (vOf (d - b) (-(c - a)))).2
theorem inR_of {x : Int} (h : rg x) : inR x = True := eq_true (rg_inR h)
section
variable {a b c d : Nb} {u v : V2} {x y : Int}
theorem iMul : inR (nMul a b).1 = True := inR_of nMul_rg
theorem iDiv : inR (nDiv a b).1 = True := inR_of nDiv_rg
theorem iInt : inR (nInt x).1 = True := inR_of nInt_rg
theorem iAdd : inR (nAdd a b).1 = True := inR_of nAdd_rg
theorem iSub : inR (nSub a b).1 = True := inR_of nSub_rg
theorem iRat : inR (nRat x y).1 = True := inR_of nRat_rg
theorem iDot : inR (nDot a b c d).1 = True := inR_of nDot_rg
theorem iHyp : inR (nHyp a b).1 = True := inR_of nHyp_rg
theorem iSq : inR (nSq a).1 = True := inR_of sqV_rg
theorem iNeg (h : inR a.1) : inR (nNeg a).1 = True := inR_of (nNeg_rg h)
theorem iPos (h : inR a.1) : inR (nPos a).1 = True := inR_of (nPos_rg h)
theorem iAbs (h : inR a.1) : inR (nAbs a).1 = True := by
  refine inR_of ?_
  have := whV_rg h
  unfold nAbs ab rg at *; dsimp only; split <;> omega
theorem iMx (h : inR a.1) (k : inR b.1) : inR (nMx a b).1 = True := by
  refine inR_of ?_
  have h1 := whV_rg h
  have h2 := whV_rg k
  unfold nMx rg at *; dsimp only; split <;> omega
theorem iMn (h : inR a.1) (k : inR b.1) : inR (nMn a b).1 = True := by
  refine inR_of ?_
  have h1 := whV_rg h
  have h2 := whV_rg k
  unfold nMn rg at *; dsimp only; split <;> omega
theorem iCl (h : inR a.1) (k : inR b.1) (l : inR c.1) : inR (nCl a b c).1 = True := by
  refine inR_of ?_
  have h1 := whV_rg h
  have h2 := whV_rg k
  have h3 := whV_rg l
  unfold nCl rg at *; dsimp only; omega
theorem iLoc1 : inR (vLoc x y).1.1 = True := iRat
theorem iLoc2 : inR (vLoc x y).2.1 = True := iRat
theorem iVAdd1 : inR (vAdd u v).1.1 = True := iAdd
theorem iVAdd2 : inR (vAdd u v).2.1 = True := iAdd
theorem iVSub1 : inR (vSub u v).1.1 = True := iSub
theorem iVSub2 : inR (vSub u v).2.1 = True := iSub
theorem iScale1 : inR (vScale u a).1.1 = True := iMul
theorem iScale2 : inR (vScale u a).2.1 = True := iMul
theorem iVDot : inR (vDot u v).1 = True := iDot
theorem iVCross : inR (vCross u v).1 = True := iDot
theorem iLen : inR (vLen u).1 = True := iHyp
theorem iOf1 : inR (vOf x y).1.1 = True := iInt
theorem iOf2 : inR (vOf x y).2.1 = True := iInt
theorem iUnit1 : inR (vUnit u).2.1.1 = True := inR_of unS_rg.1
theorem iUnit2 : inR (vUnit u).2.2.1 = True := inR_of unS_rg.2
theorem iApply1 : inR (vApply u v).1.1 = True := iDot
theorem iApply2 : inR (vApply u v).2.1 = True := iDot
theorem iNorm1 {z t : Int} : inR (vNorm x y z t).1.1 = True := iUnit1
theorem iNorm2 {z t : Int} : inR (vNorm x y z t).2.1 = True := iUnit2
theorem inR_0 : inR 0 = True := eq_true (by unfold inR; omega)
theorem inR_1 : inR 1 = True := eq_true (by unfold inR; omega)
theorem inR_2 : inR 2 = True := eq_true (by unfold inR; omega)
theorem inR_m1 : inR (-1) = True := eq_true (by unfold inR; omega)
theorem inR_256 : inR 256 = True := eq_true (by unfold inR; omega)
theorem inR_one : inR 4294967296 = True := eq_true (by unfold inR; omega)
end
attribute [go_sem] bnd_nb bnd_ve bnd_un plain_nb plain_ve plain_un etaN etaV gx_rows1 gx_rows2 gb_rows1 gb_rows2 gx4_1 gx4_2 gx4_3 gx4_4 gb4_1 gb4_2 gb4_3 gb4_4 vecs_rows nums_rows vecs_row1 nums_row1
attribute [go_sem] iMul iDiv iInt iAdd iSub iRat iDot iHyp iSq iNeg iPos iAbs iMx iMn iCl iLoc1 iLoc2 iVAdd1 iVAdd2 iVSub1 iVSub2 iScale1 iScale2 iVDot iVCross iLen iOf1 iOf2 iUnit1 iUnit2 iApply1 iApply2 iNorm1 iNorm2 inR_0 inR_1 inR_2 inR_m1 inR_256 inR_one

/-! ### The contracts so far, once more -/
def k127 : Con
  | [.v (.int .i64 n)] => some ([inR n], nbA (nInt n))
  | _ => none
theorem kon127 : ConOK Tryz.prog 127 k127 := (show c127 = k127 by kernel_rfl) ▸ con127
def k50 : Con
  | [.v (.int .i64 n)] => some ([inR n], nbA (nInt n))
  | _ => none
theorem kon50 : ConOK Tryz.prog 50 k50 := (show c50 = k50 by kernel_rfl) ▸ con50
def k179 : Con
  | [.agg [.v (.int .i64 v), .v (.bool f)]] => some ([inR v], nbA (nNeg (v, f)))
  | _ => none
theorem kon179 : ConOK Tryz.prog 179 k179 := (show c179 = k179 by kernel_rfl) ▸ con179
def k111 : Con
  | [.agg [.v (.int .i64 v), .v (.bool f)]] => some ([inR v], nbA (nNeg (v, f)))
  | _ => none
theorem kon111 : ConOK Tryz.prog 111 k111 := (show c111 = k111 by kernel_rfl) ▸ con111
def k126 : Con
  | [.agg [.v (.int .i64 v), .v (.bool f)]] => some ([inR v], nbA (nAbs (v, f)))
  | _ => none
theorem kon126 : ConOK Tryz.prog 126 k126 := (show c126 = k126 by kernel_rfl) ▸ con126
def k45 : Con
  | [.agg [.v (.int .i64 v), .v (.bool f)]] => some ([inR v], nbA (nAbs (v, f)))
  | _ => none
theorem kon45 : ConOK Tryz.prog 45 k45 := (show c45 = k45 by kernel_rfl) ▸ con45
def k129 : Con
  | [.agg [.v (.int .i64 v), .v (.bool f)], .agg [.v (.int .i64 u), .v (.bool e)]] => some ([inR v, inR u], nbA (nMul (v, f) (u, e)))
  | _ => none
theorem kon129 : ConOK Tryz.prog 129 k129 := (show c129 = k129 by kernel_rfl) ▸ con129
def k52 : Con
  | [.agg [.v (.int .i64 v), .v (.bool f)], .agg [.v (.int .i64 u), .v (.bool e)]] => some ([inR v, inR u], nbA (nMul (v, f) (u, e)))
  | _ => none
theorem kon52 : ConOK Tryz.prog 52 k52 := (show c52 = k52 by kernel_rfl) ▸ con52
def k125 : Con
  | [.agg [.v (.int .i64 v), .v (.bool f)], .agg [.v (.int .i64 u), .v (.bool e)], .agg [.v (.int .i64 x), .v (.bool p)], .agg [.v (.int .i64 y), .v (.bool q)]] => some ([inR v, inR u, inR x, inR y], nbA (nDot (v, f) (u, e) (x, p) (y, q)))
  | _ => none
theorem kon125 : ConOK Tryz.prog 125 k125 := (show c125 = k125 by kernel_rfl) ▸ con125
def k136 : Con
  | [.agg [.v (.int .i64 v), .v (.bool f)], .agg [.v (.int .i64 u), .v (.bool e)], .agg [.v (.int .i64 x), .v (.bool p)], .agg [.v (.int .i64 y), .v (.bool q)]] => some ([inR v, inR u, inR x, inR y], nbA (nDot (v, f) (u, e) (x, p) (y, q)))
  | _ => none
theorem kon136 : ConOK Tryz.prog 136 k136 := (show c136 = k136 by kernel_rfl) ▸ con136
def k160 : Con
  | [.agg [.v (.int .i64 v), .v (.bool f)], .agg [.v (.int .i64 u), .v (.bool e)]] => some ([inR v, inR u], nbA (nSub (v, f) (u, e)))
  | _ => none
theorem kon160 : ConOK Tryz.prog 160 k160 := (show c160 = k160 by kernel_rfl) ▸ con160
def k46 : Con
  | [.agg [.v (.int .i64 v), .v (.bool f)], .agg [.v (.int .i64 u), .v (.bool e)]] => some ([inR v, inR u], nbA (nSub (v, f) (u, e)))
  | _ => none
theorem kon46 : ConOK Tryz.prog 46 k46 := (show c46 = k46 by kernel_rfl) ▸ con46
def k208 : Con
  | [.agg [.v (.int .i64 v), .v (.bool f)], .agg [.v (.int .i64 u), .v (.bool e)]] => some ([inR v, inR u], nbA (nAdd (v, f) (u, e)))
  | _ => none
theorem kon208 : ConOK Tryz.prog 208 k208 := (show c208 = k208 by kernel_rfl) ▸ con208
def k132 : Con
  | [.v (.int .i64 a), .v (.int .i64 b)] => some ([inR a, inR b], nbA (nRat a b))
  | _ => none
theorem kon132 : ConOK Tryz.prog 132 k132 := (show c132 = k132 by kernel_rfl) ▸ con132
def k54 : Con
  | [.v (.int .i64 a), .v (.int .i64 b)] => some ([inR a, inR b], nbA (nRat a b))
  | _ => none
theorem kon54 : ConOK Tryz.prog 54 k54 := (show c54 = k54 by kernel_rfl) ▸ con54
def k168 : Con
  | [.agg [.v (.int .i64 v), .v (.bool f)], .agg [.v (.int .i64 u), .v (.bool e)]] => some ([inR v, inR u], nbA (nDiv (v, f) (u, e)))
  | _ => none
theorem kon168 : ConOK Tryz.prog 168 k168 := (show c168 = k168 by kernel_rfl) ▸ con168
def k144 : Con
  | [.agg [.v (.int .i64 v), .v (.bool f)], .agg [.v (.int .i64 u), .v (.bool e)]] => some ([inR v, inR u], nbA (nDiv (v, f) (u, e)))
  | _ => none
theorem kon144 : ConOK Tryz.prog 144 k144 := (show c144 = k144 by kernel_rfl) ▸ con144
def k251 : Con
  | [.agg [.v (.int .i64 v), .v (.bool f)]] => some ([inR v], nbA (nSq (v, f)))
  | _ => none
theorem kon251 : ConOK Tryz.prog 251 k251 := (show c251 = k251 by kernel_rfl) ▸ con251
def k142 : Con
  | [.agg [.v (.int .i64 v), .v (.bool f)]] => some ([inR v], nbA (nSq (v, f)))
  | _ => none
theorem kon142 : ConOK Tryz.prog 142 k142 := (show c142 = k142 by kernel_rfl) ▸ con142
def k213 : Con
  | [.agg [.v (.int .i64 v), .v (.bool f)], .agg [.v (.int .i64 u), .v (.bool e)]] => some ([inR v, inR u], nbA (nHyp (v, f) (u, e)))
  | _ => none
theorem kon213 : ConOK Tryz.prog 213 k213 := (show c213 = k213 by kernel_rfl) ▸ con213
def k112 : Con
  | [.agg [.v (.int .i64 v), .v (.bool f)], .agg [.v (.int .i64 u), .v (.bool e)]] => some ([inR v, inR u], nbA (nHyp (v, f) (u, e)))
  | _ => none
theorem kon112 : ConOK Tryz.prog 112 k112 := (show c112 = k112 by kernel_rfl) ▸ con112
def k171 : Con
  | [.agg [.v (.int .i64 x), .v (.bool f)], .agg [.v (.int .i64 l), .v (.bool p)], .agg [.v (.int .i64 h), .v (.bool q)]] => some ([inR x, inR l, inR h], nbA (nCl (x, f) (l, p) (h, q)))
  | _ => none
theorem kon171 : ConOK Tryz.prog 171 k171 := (show c171 = k171 by kernel_rfl) ▸ con171
def k146 : Con
  | [.agg [.v (.int .i64 x), .v (.bool f)], .agg [.v (.int .i64 l), .v (.bool p)], .agg [.v (.int .i64 h), .v (.bool q)]] => some ([inR x, inR l, inR h], nbA (nCl (x, f) (l, p) (h, q)))
  | _ => none
theorem kon146 : ConOK Tryz.prog 146 k146 := (show c146 = k146 by kernel_rfl) ▸ con146
def k167 : Con
  | [.agg [.v (.int .i64 x), .v (.bool f)]] => some ([inR x], nbA (nPos (x, f)))
  | _ => none
theorem kon167 : ConOK Tryz.prog 167 k167 := (show c167 = k167 by kernel_rfl) ▸ con167
def k63 : Con
  | [.agg [.v (.int .i64 x), .v (.int .i64 y)]] => some ([inR x, inR y], veA (vLoc x y))
  | _ => none
theorem kon63 : ConOK Tryz.prog 63 k63 := (show c63 = k63 by kernel_rfl) ▸ con63
def k69 : Con
  | [.agg [.v (.int .i64 x), .v (.int .i64 y)]] => some ([inR x, inR y], veA (vLoc x y))
  | _ => none
theorem kon69 : ConOK Tryz.prog 69 k69 := (show c69 = k69 by kernel_rfl) ▸ con69
def k162 : Con
  | [.v (.int .i64 x)] => some ([inR x], nbA (nRat x 256))
  | _ => none
theorem kon162 : ConOK Tryz.prog 162 k162 := (show c162 = k162 by kernel_rfl) ▸ con162
def k161 : Con
  | [.agg [.v (.int .i64 x), .v (.bool e), .v (.int .i64 y), .v (.bool f)]] => some ([inR x, inR y], nbA (vLen ((x, e), (y, f))))
  | _ => none
theorem kon161 : ConOK Tryz.prog 161 k161 := (show c161 = k161 by kernel_rfl) ▸ con161
def k169 : Con
  | [.agg [.v (.int .i64 x), .v (.bool e), .v (.int .i64 y), .v (.bool f)], .agg [.v (.int .i64 k), .v (.bool g)]] => some ([inR x, inR y, inR k], veA (vScale ((x, e), (y, f)) (k, g)))
  | _ => none
theorem kon169 : ConOK Tryz.prog 169 k169 := (show c169 = k169 by kernel_rfl) ▸ con169
def k178 : Con
  | [.agg [.v (.int .i64 x), .v (.bool e), .v (.int .i64 y), .v (.bool f)], .agg [.v (.int .i64 z), .v (.bool g), .v (.int .i64 t), .v (.bool h)]] => some ([inR x, inR y, inR z, inR t], nbA (vDot ((x, e), (y, f)) ((z, g), (t, h))))
  | _ => none
theorem kon178 : ConOK Tryz.prog 178 k178 := (show c178 = k178 by kernel_rfl) ▸ con178
def k250 : Con
  | [.agg [.v (.int .i64 x), .v (.bool e), .v (.int .i64 y), .v (.bool f)], .agg [.v (.int .i64 z), .v (.bool g), .v (.int .i64 t), .v (.bool h)]] => some ([inR x, inR y, inR z, inR t], nbA (vCross ((x, e), (y, f)) ((z, g), (t, h))))
  | _ => none
theorem kon250 : ConOK Tryz.prog 250 k250 := (show c250 = k250 by kernel_rfl) ▸ con250
def k166 : Con
  | [.v (.int .i64 x), .v (.int .i64 y)] => some ([inR x, inR y], veA (vOf x y))
  | _ => none
theorem kon166 : ConOK Tryz.prog 166 k166 := (show c166 = k166 by kernel_rfl) ▸ con166
def k176 : Con
  | [.agg [.v (.int .i64 x), .v (.int .i64 y)]] => some ([inR x, inR y], veA (vOf x y))
  | _ => none
theorem kon176 : ConOK Tryz.prog 176 k176 := (show c176 = k176 by kernel_rfl) ▸ con176
def k165 : Con
  | [.agg [.v (.int .i64 x), .v (.bool e), .v (.int .i64 y), .v (.bool f)]] => some ([inR x, inR y], unA (vUnit ((x, e), (y, f))))
  | _ => none
theorem kon165 : ConOK Tryz.prog 165 k165 := (show c165 = k165 by kernel_rfl) ▸ con165
def k173 : Con
  | [.agg [.v (.int .i64 a), .v (.int .i64 b)], .agg [.v (.int .i64 c), .v (.int .i64 d)]] => some ([validS a b = true, validS c d = true], veA (vNorm a b c d))
  | _ => none
theorem kon173 : ConOK Tryz.prog 173 k173 := (show c173 = k173 by kernel_rfl) ▸ con173
def k139 : Con
  | [.agg [.v (.int .i64 x), .v (.bool e), .v (.int .i64 y), .v (.bool f)], .agg [.v (.int .i64 z), .v (.bool g), .v (.int .i64 t), .v (.bool h)]] => some ([inR x, inR y, inR z, inR t], veA (vApply ((x, e), (y, f)) ((z, g), (t, h))))
  | _ => none
theorem kon139 : ConOK Tryz.prog 139 k139 := (show c139 = k139 by kernel_rfl) ▸ con139

theorem owe2 {p q : Prop} (h1 : p) (h2 : q) : ∀ x ∈ [p, q], x := List.forall_mem_cons.2 ⟨h1, List.forall_mem_cons.2 ⟨h2, fun _ h => (List.not_mem_nil h).elim⟩⟩
def vTwo (g : Nat → List AV) : AV := veA (vAdd ((gx g 0 0, gb g 1 0), (gx g 2 0, gb g 3 0)) ((gx g 0 1, gb g 1 1), (gx g 2 1, gb g 3 1)))
theorem vecs_at {g : Nat → List AV} (h : vecs 2 g) : g 0 = [i64 (gx g 0 0), bo (gb g 1 0), i64 (gx g 2 0), bo (gb g 3 0)] ∧ g 1 = [i64 (gx g 0 1), bo (gb g 1 1), i64 (gx g 2 1), bo (gb g 3 1)] := ⟨(h 0 (by omega)).1, (h 1 (by omega)).1⟩
theorem two_eq {g : Nat → List AV} (h : vecs 2 g) : ve (su1 2 (gx g 0) (gb g 1)) (su1 2 (gx g 2) (gb g 3)) = vTwo g := by
  obtain ⟨h0, h1⟩ := vecs_at h
  rw [su2x h0 h1, su2y h0 h1]; rfl
def k130 : Con
  | [.ro 2 4 g] => some ([vecs 2 g], veA (vAdd ((gx g 0 0, gb g 1 0), (gx g 2 0, gb g 3 0)) ((gx g 0 1, gb g 1 1), (gx g 2 1, gb g 3 1))))
  | _ => none
theorem kon130 : ConOK Tryz.prog 130 k130 := fun l ob r hc hob => by
  unfold k130 at hc
  split at hc
  · rename_i g
    cases hc
    have h : vecs 2 g := hob _ (by simp)
    have := con130 [.ro 2 4 g] _ _ rfl (owe2 h (by omega))
    rw [two_eq h] at this
    exact this
  · cases hc
def k138 : Con
  | [.ro 2 4 g] => some ([vecs 2 g], veA (vAdd ((gx g 0 0, gb g 1 0), (gx g 2 0, gb g 3 0)) ((gx g 0 1, gb g 1 1), (gx g 2 1, gb g 3 1))))
  | _ => none
theorem kon138 : ConOK Tryz.prog 138 k138 := fun l ob r hc hob => by
  unfold k138 at hc
  split at hc
  · rename_i g
    cases hc
    have h : vecs 2 g := hob _ (by simp)
    have := con138 [.ro 2 4 g] _ _ rfl (owe2 h (by omega))
    rw [two_eq h] at this
    exact this
  · cases hc
theorem nums_at {g : Nat → List AV} (h : nums 2 g) : g 0 = [i64 (gx g 0 0), bo (gb g 1 0)] ∧ g 1 = [i64 (gx g 0 1), bo (gb g 1 1)] := ⟨(h 0 (by omega)).1, (h 1 (by omega)).1⟩
theorem mx_eq {g : Nat → List AV} (h : nums 2 g) : moS (-1) 2 g = nbA (nMx (gx g 0 0, gb g 1 0) (gx g 0 1, gb g 1 1)) := by
  obtain ⟨h0, h1⟩ := nums_at h
  unfold nbA nMx
  have e := (sum2 h0 h1).2
  have m := mo2 (o := -1) h0 h1
  have e1 : ((-1 : Int) = 1) = False := by decide
  simp only [e1, false_and, false_or, eq_self, true_and] at m
  show AV.agg [i64 (moV (-1) 2 g), bo (wfS 2 g)] = _
  rw [m, e]
theorem mn_eq {g : Nat → List AV} (h : nums 2 g) : moS 1 2 g = nbA (nMn (gx g 0 0, gb g 1 0) (gx g 0 1, gb g 1 1)) := by
  obtain ⟨h0, h1⟩ := nums_at h
  unfold nbA nMn
  have e := (sum2 h0 h1).2
  have m := mo2 (o := 1) h0 h1
  have e1 : ((1 : Int) = -1) = False := by decide
  simp only [e1, false_and, or_false, eq_self, true_and] at m
  show AV.agg [i64 (moV 1 2 g), bo (wfS 2 g)] = _
  rw [m, e]
def k143 : Con
  | [.ro 2 2 g] => some ([nums 2 g], nbA (nMx (gx g 0 0, gb g 1 0) (gx g 0 1, gb g 1 1)))
  | _ => none
theorem kon143 : ConOK Tryz.prog 143 k143 := fun l ob r hc hob => by
  unfold k143 at hc
  split at hc
  · rename_i g
    cases hc
    have h : nums 2 g := hob _ (by simp)
    have := con143 [.ro 2 2 g] _ _ rfl (owe2 h (by omega))
    rw [mx_eq h] at this
    exact this
  · cases hc
def k163 : Con
  | [.ro 2 2 g] => some ([nums 2 g], nbA (nMn (gx g 0 0, gb g 1 0) (gx g 0 1, gb g 1 1)))
  | _ => none
theorem kon163 : ConOK Tryz.prog 163 k163 := fun l ob r hc hob => by
  unfold k163 at hc
  split at hc
  · rename_i g
    cases hc
    have h : nums 2 g := hob _ (by simp)
    have := con163 [.ro 2 2 g] _ _ rfl (owe2 h (by omega))
    rw [mn_eq h] at this
    exact this
  · cases hc
def k214 : Con
  | [.ro 2 2 g] => some ([nums 2 g], nbA (nMx (gx g 0 0, gb g 1 0) (gx g 0 1, gb g 1 1)))
  | _ => none
theorem kon214 : ConOK Tryz.prog 214 k214 := fun l ob r hc hob => by
  unfold k214 at hc
  split at hc
  · rename_i g
    cases hc
    have h : nums 2 g := hob _ (by simp)
    have := con214 [.ro 2 2 g] _ _ rfl (owe2 h (by omega))
    rw [mx_eq h] at this
    exact this
  · cases hc
def k212 : Con
  | [.ro 2 2 g] => some ([nums 2 g], nbA (nMn (gx g 0 0, gb g 1 0) (gx g 0 1, gb g 1 1)))
  | _ => none
theorem kon212 : ConOK Tryz.prog 212 k212 := fun l ob r hc hob => by
  unfold k212 at hc
  split at hc
  · rename_i g
    cases hc
    have h : nums 2 g := hob _ (by simp)
    have := con212 [.ro 2 2 g] _ _ rfl (owe2 h (by omega))
    rw [mn_eq h] at this
    exact this
  · cases hc
theorem nPos_eq {a : Nb} : nMx (0, false) a = nPos a := by
  have c1 : whV 0 = 0 := by decide
  have c2 : whF 0 false = false := by decide
  unfold nMx nPos
  dsimp only
  rw [c1, c2, Bool.false_or]
attribute [go_sem] nPos_eq
/-! ### The reference's vectors -/
def k47 : Con
  | [.agg [.v (.int .i64 x), .v (.bool e), .v (.int .i64 y), .v (.bool f)]] => some ([inR x, inR y], nbA (vLen ((x, e), (y, f))))
  | _ => none
theorem kon47 : ConOK Tryz.prog 47 k47 := ConOK.of (G := [(112, k112)]) (H := []) (.cons kon112 .nil) Tryz.func47 fun l ob r hc hob => by
  unfold k47 at hc
  split at hc
  · rename_i x e y f
    cases hc
    have h_0 : inR x := hob _ (by simp)
    have h_1 : inR y := hob _ (by simp)
    refine ⟨by kernel_rfl, fnVC_go (rs := [.cell 2 26]) rfl rfl ?_⟩
    simp only [go_sem, k112, h_0, h_1]
    rfl
  · cases hc
def k145 : Con
  | [.agg [.v (.int .i64 x), .v (.bool e), .v (.int .i64 y), .v (.bool f)], .agg [.v (.int .i64 z), .v (.bool g), .v (.int .i64 t), .v (.bool h)]] => some ([inR x, inR y, inR z, inR t], nbA (vDot ((x, e), (y, f)) ((z, g), (t, h))))
  | _ => none
theorem kon145 : ConOK Tryz.prog 145 k145 := ConOK.of (G := [(136, k136)]) (H := []) (.cons kon136 .nil) Tryz.func145 fun l ob r hc hob => by
  unfold k145 at hc
  split at hc
  · rename_i x e y f z g t h
    cases hc
    have h_0 : inR x := hob _ (by simp)
    have h_1 : inR y := hob _ (by simp)
    have h_2 : inR z := hob _ (by simp)
    have h_3 : inR t := hob _ (by simp)
    refine ⟨by kernel_rfl, fnVC_go (rs := [.cell 4 26]) rfl rfl ?_⟩
    simp only [go_sem, k136, h_0, h_1, h_2, h_3]
    rfl
  · cases hc
def k141 : Con
  | [.agg [.v (.int .i64 x), .v (.bool e), .v (.int .i64 y), .v (.bool f)], .agg [.v (.int .i64 z), .v (.bool g), .v (.int .i64 t), .v (.bool h)]] => some ([inR x, inR y, inR z, inR t], nbA (vCross ((x, e), (y, f)) ((z, g), (t, h))))
  | _ => none
theorem kon141 : ConOK Tryz.prog 141 k141 := ConOK.of (G := [(136, k136), (111, k111)]) (H := [(1, ⟨[(10, .slot 4)], []⟩)]) (.cons kon136 (.cons kon111 .nil)) Tryz.func141 fun l ob r hc hob => by
  unfold k141 at hc
  split at hc
  · rename_i x e y f z g t h
    cases hc
    have h_0 : inR x := hob _ (by simp)
    have h_1 : inR y := hob _ (by simp)
    have h_2 : inR z := hob _ (by simp)
    have h_3 : inR t := hob _ (by simp)
    refine ⟨by kernel_rfl, fnVC_go (rs := [.cell 4 26]) rfl rfl ?_⟩
    simp only [go_sem, k136, k111, h_0, h_1, h_2, h_3]
    rfl
  · cases hc
def k147 : Con
  | [.agg [.v (.int .i64 x), .v (.bool e), .v (.int .i64 y), .v (.bool f)], .agg [.v (.int .i64 k), .v (.bool g)]] => some ([inR x, inR y, inR k], veA (vScale ((x, e), (y, f)) (k, g)))
  | _ => none
theorem kon147 : ConOK Tryz.prog 147 k147 := ConOK.of (G := [(52, k52)]) (H := [(1, ⟨[(9, .slot 4)], []⟩)]) (.cons kon52 .nil) Tryz.func147 fun l ob r hc hob => by
  unfold k147 at hc
  split at hc
  · rename_i x e y f k g
    cases hc
    have h_0 : inR x := hob _ (by simp)
    have h_1 : inR y := hob _ (by simp)
    have h_2 : inR k := hob _ (by simp)
    refine ⟨by kernel_rfl, fnVC_go (rs := [.cell 4 28]) rfl rfl ?_⟩
    simp only [go_sem, k52, h_0, h_1, h_2]
    rfl
  · cases hc
def k149 : Con
  | [.agg [.v (.int .i64 x), .v (.int .i64 y)]] => some ([inR x, inR y], veA (vOf x y))
  | _ => none
theorem kon149 : ConOK Tryz.prog 149 k149 := ConOK.of (G := [(50, k50)]) (H := [(1, ⟨[(7, .slot 2)], []⟩)]) (.cons kon50 .nil) Tryz.func149 fun l ob r hc hob => by
  unfold k149 at hc
  split at hc
  · rename_i x y
    cases hc
    have h_0 : inR x := hob _ (by simp)
    have h_1 : inR y := hob _ (by simp)
    refine ⟨by kernel_rfl, fnVC_go (rs := [.cell 2 28]) rfl rfl ?_⟩
    simp only [go_sem, k50, h_0, h_1]
    rfl
  · cases hc
def k181 : Con
  | [.agg [.v (.int .i64 x), .v (.bool e), .v (.int .i64 y), .v (.bool f)], .agg [.v (.int .i64 z), .v (.bool g), .v (.int .i64 t), .v (.bool h)]] => some ([inR x, inR y, inR z, inR t], veA (vSub ((x, e), (y, f)) ((z, g), (t, h))))
  | _ => none
theorem kon181 : ConOK Tryz.prog 181 k181 := ConOK.of (G := [(46, k46)]) (H := [(1, ⟨[(11, .slot 4)], []⟩)]) (.cons kon46 .nil) Tryz.func181 fun l ob r hc hob => by
  unfold k181 at hc
  split at hc
  · rename_i x e y f z g t h
    cases hc
    have h_0 : inR x := hob _ (by simp)
    have h_1 : inR y := hob _ (by simp)
    have h_2 : inR z := hob _ (by simp)
    have h_3 : inR t := hob _ (by simp)
    refine ⟨by kernel_rfl, fnVC_go (rs := [.cell 4 28]) rfl rfl ?_⟩
    simp only [go_sem, k46, h_0, h_1, h_2, h_3]
    rfl
  · cases hc
def k172 : Con
  | [.agg [.v (.int .i64 x), .v (.bool e), .v (.int .i64 y), .v (.bool f)], .agg [.v (.int .i64 z), .v (.bool g), .v (.int .i64 t), .v (.bool h)]] => some ([inR x, inR y, inR z, inR t], veA (vSub ((x, e), (y, f)) ((z, g), (t, h))))
  | _ => none
theorem kon172 : ConOK Tryz.prog 172 k172 := ConOK.of (G := [(160, k160)]) (H := [(1, ⟨[(11, .slot 4)], []⟩)]) (.cons kon160 .nil) Tryz.func172 fun l ob r hc hob => by
  unfold k172 at hc
  split at hc
  · rename_i x e y f z g t h
    cases hc
    have h_0 : inR x := hob _ (by simp)
    have h_1 : inR y := hob _ (by simp)
    have h_2 : inR z := hob _ (by simp)
    have h_3 : inR t := hob _ (by simp)
    refine ⟨by kernel_rfl, fnVC_go (rs := [.cell 4 28]) rfl rfl ?_⟩
    simp only [go_sem, k160, h_0, h_1, h_2, h_3]
    rfl
  · cases hc
end Go.Ax
end

section
/-
  The reference's directions and normals.
-/
set_option linter.unusedVariables false
set_option linter.unusedSimpArgs false
set_option maxHeartbeats 4000000
set_option maxRecDepth 100000
namespace Go.Ax
open Go.Proofs
def c206 : Con
  | [.ro n 4 g] => some ([vecs n g, n ≤ 1000], bo (vfS n g))
  | _ => none
theorem vc206 (n : Nat) (X Y : Nat → Int) (E F : Nat → Bool) (hX : ∀ i, i < n → inR (X i) ∧ inR (Y i)) (hn : n ≤ 1000) : fnVC Tryz.prog [(137, c137)] [] Tryz.f206 [.ro n 4 fun i => [i64 (X i), bo (E i), i64 (Y i), bo (F i)]] (· = bo (anyB (fun i => whF (X i) (E i) || whF (Y i) (F i)) n)) := by
  refine fnVC_go (rs := [.tmp 2]) rfl rfl ?_
  simp only [go_sem]
  refine loopC_go (fun (i : Nat) => i ≤ n ∧ ∀ j, j < i → (whF (X j) (E j) || whF (Y j) (F j)) = false) (fun i => n - i) (fun i => [(3, i64 i)]) (fun _ => []) [] [4, 5, 6, 7, 10, 11, 12, 13, 14, 15, 16, 17, 18, 19, 20, 21, 22, 23, 2, 8, 9, 3] 0 (by kernel_rfl) ?_ ⟨Nat.zero_le _, fun j hj => by omega⟩ ?_ ?_
  · intro x _; simp [goodNames]
  · simp only [go_sem]
  · intro i hi
    simp only [go_sem, c137]
    refine ⟨fun h => ⟨by omega, h, fun z hz => ⟨(hX i (by omega)).1, fun _ => by omega, fun _ => h, fun z1 hz1 => ⟨fun _ => (hX i (by omega)).2, fun hb => ?_, fun hb z2 hz2 => ⟨i + 1, ⟨by omega, fun j hj => ?_⟩, by omega, ?_⟩⟩⟩⟩, fun h => ?_⟩
    · have : anyB (fun i => whF (X i) (E i) || whF (Y i) (F i)) n = true := anyB_iff.2 ⟨i, by omega, by rw [← hz, ← hz1]; simpa using hb⟩
      rw [this]
    · by_cases e : j = i
      · subst e
        rw [← hz, ← hz1]
        simpa using hb
      · simpa using hi.2 j (by omega)
    · rw [hz2, wrap_in (by unfold inR; omega)]; rfl
    · have : anyB (fun i => whF (X i) (E i) || whF (Y i) (F i)) n = false := by
        rw [Bool.eq_false_iff]
        intro hc
        obtain ⟨j, h1, h2⟩ := anyB_iff.1 hc
        rw [hi.2 j (by omega)] at h2; cases h2
      rw [this]
theorem con206 : ConOK Tryz.prog 206 c206 := ConOK.go (G := [(137, c137)]) (H := []) (.cons con137 .nil) Tryz.func206 fun l ob r hc hob => by
  unfold c206 at hc
  split at hc
  · rename_i n g
    cases hc
    have hs : vecs n g := hob _ (by simp)
    exact ⟨[.ro n 4 fun i => [i64 (gx g 0 i), bo (gb g 1 i), i64 (gx g 2 i), bo (gb g 3 i)]], fun w I vs h => Rs_one (fun v => ro_alike fun i hi => (hs i hi).1) h, by kernel_rfl, vc206 n _ _ _ _ (fun i hi => (hs i hi).2) (hob _ (by simp))⟩
  · cases hc
def k140 : Con
  | [.agg [.v (.int .i64 x), .v (.bool e), .v (.int .i64 y), .v (.bool f)]] => some ([inR x, inR y], unA (vUnit ((x, e), (y, f))))
  | _ => none
theorem kon140 : ConOK Tryz.prog 140 k140 := ConOK.of (G := [(206, c206), (45, k45), (207, c207), (47, k47), (144, k144)]) (H := [(5, ⟨[(11, .slot 4)], []⟩), (9, ⟨[(9, .slot 2)], []⟩)]) (.cons con206 (.cons kon45 (.cons con207 (.cons kon47 (.cons kon144 .nil))))) Tryz.func140 fun l ob r hc hob => by
  unfold k140 at hc
  split at hc
  · rename_i x e y f
    cases hc
    have h_0 : inR x := hob _ (by simp)
    have h_1 : inR y := hob _ (by simp)
    refine ⟨by kernel_rfl, fnVC_go (rs := [.cell 2 28, .tmp 3]) rfl rfl ?_⟩
    simp only [go_sem, c206, k45, c207, k47, k144, h_0, h_1]
    have eU : vUnit ((x, e), y, f) = unS x e y f := rfl
    have eab : ∀ (v : Int) (g : Bool), whF v g = false → (nAbs (v, g)).1 = ab v := fun v g h => by
      obtain ⟨h1, _⟩ := wh_split h
      show ab (whV v) = _
      unfold whV; rw [if_neg h1]
    rw [eU]
    intro z hz
    rw [vf1 rfl] at hz
    refine ⟨fun ht => ?_, fun ht => ⟨fun _ => trivial, ?_, ?_⟩⟩
    · rw [unS_none (by rw [hz] at ht; simpa using ht)]; rfl
    · intro hs z1 hz1 z2 hz2 z3 hz3 z4 hz4 z5 hz5 z6 hz6
      have ht2 : whF x e = false ∧ whF y f = false := by rw [hz] at ht; simpa using ht
      have ht : ¬ (whF x e = true ∨ whF y f = true) := by rw [ht2.1, ht2.2]; simp
      rw [eab x e ht2.1, eab y f ht2.2] at hs
      have hxb : -16777216 < x ∧ x < 16777216 := by unfold ab at hs; have := hs.1; split at this <;> omega
      have hyb : -16777216 < y ∧ y < 16777216 := by unfold ab at hs; have := hs.2; split at this <;> omega
      have hb : unB x y = ((x * 16777216, false), (y * 16777216, false)) := by unfold unB; rw [if_pos hs]
      rw [wrap_in (x := x * 16777216) (by unfold inR; omega)] at hz1
      rw [wrap_in (x := y * 16777216) (by unfold inR; omega)] at hz4
      have w1 : z2 = x * 16777216 := by rw [hz2, hz1]; unfold whV; rw [if_neg (by omega)]
      have w2 : z3 = false := by rw [hz3, hz1]; unfold whF; rw [decide_eq_false (by omega)]; rfl
      have w3 : z5 = y * 16777216 := by rw [hz5, hz4]; unfold whV; rw [if_neg (by omega)]
      have w4 : z6 = false := by rw [hz6, hz4]; unfold whF; rw [decide_eq_false (by omega)]; rfl
      rw [w1, w2, w3, w4]
      refine ⟨by unfold inR; omega, by unfold inR; omega, fun h => ?_, fun h => ⟨by unfold inR; omega, by unfold inR; omega, ?_⟩⟩
      · rw [unS_nul ht hb (by simpa [vLen] using h)]; rfl
      · rw [unS_some ht hb (by simpa [vLen] using h)]; rfl
    · intro hs
      have ht2 : whF x e = false ∧ whF y f = false := by rw [hz] at ht; simpa using ht
      have ht : ¬ (whF x e = true ∨ whF y f = true) := by rw [ht2.1, ht2.2]; simp
      rw [eab x e ht2.1, eab y f ht2.2] at hs
      have hb : unB x y = ((x, false), (y, false)) := by unfold unB; rw [if_neg (by simpa using hs)]
      obtain ⟨_, rfl⟩ := wh_split ht2.1
      obtain ⟨_, rfl⟩ := wh_split ht2.2
      refine ⟨fun h => ?_, fun h => ?_⟩
      · rw [unS_nul ht hb (by simpa [vLen] using h)]; rfl
      · rw [unS_some ht hb (by simpa [vLen] using h)]; rfl
  · cases hc
def k83 : Con
  | [.agg [.v (.int .i64 a), .v (.int .i64 b)], .agg [.v (.int .i64 c), .v (.int .i64 d)]] => some ([validS a b = true, validS c d = true], veA (vNorm a b c d))
  | _ => none
theorem kon83 : ConOK Tryz.prog 83 k83 := ConOK.of (G := [(149, k149), (140, k140)]) (H := []) (.cons kon149 (.cons kon140 .nil)) Tryz.func83 fun l ob r hc hob => by
  unfold k83 at hc
  split at hc
  · rename_i a b c d
    cases hc
    have h_0 : validS a b = true := hob _ (by simp)
    have h_1 : validS c d = true := hob _ (by simp)
    refine ⟨by kernel_rfl, fnVC_go (rs := [.cell 4 28]) rfl rfl ?_⟩
    simp only [go_sem, k149, k140]
    have v1 := validS_iff.1 h_0
    have v2 := validS_iff.1 h_1
    simp only [forall_eq]
    rw [wrap_in (x := d - b) (by unfold inR; omega), wrap_in (x := a - c) (by unfold inR; omega), show a - c = -(c - a) by omega]
    exact ⟨by unfold inR; omega, by unfold inR; omega, rfl⟩
  · cases hc
end Go.Ax
end
