/-
  The law of spots: what SolidSpots hands back.
-/
import Derived.Test.YtdebekhncimenaaAxZ7
set_option linter.unusedVariables false
set_option linter.unusedSimpArgs false
set_option maxHeartbeats 2000000
set_option maxRecDepth 100000
namespace Go.Ax
open Go.Proofs
theorem vc5 (a b c d e f : Int) (n : Nat) (X Y : Nat → Int) (h1 : inR a ∧ inR b ∧ inR c ∧ inR d ∧ inR e ∧ inR f) (hX : ∀ i, i < n → inR (X i) ∧ inR (Y i)) :
    fnVC Try.prog [(9, c9), (22, c22), (23, c23), (24, c24), (25, c25), (26, c25), (27, c27)] [] Try.f5 [.agg [i64 a, i64 b], .agg [i64 c, i64 d], .agg [i64 e, i64 f], .ro n 2 fun i => [i64 (X i), i64 (Y i)]] (· = bo true) := by
  refine fnVC_go (rs := [.tmp 8]) rfl rfl ?_
  simp only [go_sem, c9, c22, c23, c24, c25, c27]
  have hs : spots n fun i => [i64 (X i), i64 (Y i)] := fun i hi => ⟨rfl, hX i hi⟩
  have hs2 : spots n fun i => [i64 (gx (fun i => [i64 (X i), i64 (Y i)]) 0 i), i64 (gx (fun i => [i64 (X i), i64 (Y i)]) 1 i)] := hs
  refine ⟨fun _ _ => trivial, fun hn => ⟨hs, by omega, fun z hz => ⟨h1.1, h1.2.1, h1.2.2.1, h1.2.2.2.1, h1.2.2.2.2.1, h1.2.2.2.2.2, fun z1 hz1 z2 hz2 => ⟨fun _ => hs, fun _ => by omega, fun z3 hz3 => ⟨fun _ => hs, fun _ => by omega, fun z4 hz4 => ⟨fun _ => hs, fun _ => hs, fun _ => by omega, fun _ => by omega, fun z5 hz5 => ?_⟩⟩⟩⟩⟩⟩
  subst hz hz1 hz2 hz3 hz4 hz5
  simp
end Go.Ax
