/-
  Contracts in use; what all functions share.
-/
import Derived.Test.YtdebekhncimenaaAxY
import Derived.Test.YtdebekhncimenaaAxQ
import Derived.Handy
set_option linter.unusedVariables false
namespace Go.Ax
open Go.Proofs

abbrev i64 (x : Int) : AV := .v (.int .i64 x)
abbrev bo (x : Bool) : AV := .v (.bool x)
/-- An int64. -/
def inR (x : Int) : Prop := -9223372036854775808 ≤ x ∧ x ≤ 9223372036854775807
/-- The whole number in a cell. -/
def gi (cs : List AV) (k : Nat) : Int := match cs[k]? with
  | some (.v (.int _ n)) => n
  | _ => 0
theorem gi_0 {c : IntKind} {x : Int} {l : List AV} : gi (.v (.int c x) :: l) 0 = x := (rfl)
theorem gi_1 {a : AV} {c : IntKind} {x : Int} {l : List AV} : gi (a :: .v (.int c x) :: l) 1 = x := (rfl)
theorem gi_2 {a b : AV} {c : IntKind} {x : Int} {l : List AV} : gi (a :: b :: .v (.int c x) :: l) 2 = x := (rfl)
theorem gi_3 {a b d : AV} {c : IntKind} {x : Int} {l : List AV} : gi (a :: b :: d :: .v (.int c x) :: l) 3 = x := (rfl)

theorem wrap_i64 (x : Int) : IntKind.i64.wrap x = (x + 9223372036854775808) % 18446744073709551616 - 9223372036854775808 := by
  have e1 : ((2 : Int) ^ IntKind.i64.bits) = 18446744073709551616 := by decide
  have e2 : ((2 : Int) ^ (IntKind.i64.bits - 1)) = 9223372036854775808 := by decide
  have e3 : IntKind.i64.signed = true := rfl
  unfold IntKind.wrap
  simp only [e1, e2, e3, Bool.true_and, decide_eq_true_eq]
  split <;> omega
theorem wrap_in {x : Int} (h : inR x) : IntKind.i64.wrap x = x := by
  rw [wrap_i64]; unfold inR at h; omega

section
variable {P : Program} {G : Ctx} {H : Hots}
theorem ConOK.go (hG : CtxOK P G) {f : FuncId} {fn : Func} (hf : P.funcs[f]? = some fn) {c : Con}
    (h : ∀ es1 ob r, c es1 = some (ob, r) → (∀ p ∈ ob, p) → ∃ es, (∀ w I vs, Rs w (.ext I) es1 vs → Rs w (.ext I) es vs) ∧ funcOK P H fn es.length = true ∧ fnVC P G H fn es (· = r)) : ConOK P f c := by
  intro es0 ob r hc hob I w vs hI hRs
  obtain ⟨es, h0, h1, h2⟩ := h es0 ob r hc hob
  obtain ⟨k1, k2⟩ := fn_sound hG hf h1 h2 I w vs hI (h0 w I vs hRs)
  refine .inr ⟨k1, k2.mono fun e w' ⟨v, he, ⟨r', hr, hR⟩, hb⟩ => ⟨v, he, ?_, hb⟩⟩
  subst hr
  exact hR

/-- A slice counts up to its length alone. -/
theorem ro_alike {w : World} {ρ : Env} {n sz : Nat} {get get' : Nat → List AV} {v : Value} (h : ∀ i, i < n → get i = get' i) (hR : R w ρ (.ro n sz get) v) : R w ρ (.ro n sz get') v := by
  cases hR with
  | ro b o hn ha hi hlen hex hr =>
    refine .ro b o hn ha hi (fun i hi' => by rw [← h i hi']; exact hlen i hi') hex (fun i k c x h1 h2 h3 => hr i k c x h1 (by rw [h i h1]; exact h2) h3)
theorem Rs_one {w : World} {ρ : Env} {a a' : AV} {vs : List Value} (h : ∀ v, R w ρ a v → R w ρ a' v) (hR : Rs w ρ [a] vs) : Rs w ρ [a'] vs := by
  obtain ⟨x, xs, rfl, h1, h2⟩ := hR.inv
  exact .cons (h x h1) h2
end

theorem aEq23 {a b c d x y z t : Int} : aEq Try.prog 23 (.agg [i64 a, i64 b, i64 c, i64 d]) (.agg [i64 x, i64 y, i64 z, i64 t]) = some ((a == x) && ((b == y) && ((c == z) && ((d == t) && true)))) := by kernel_rfl
theorem aEq25 {a b x y : Int} : aEq Try.prog 25 (.agg [i64 a, i64 b]) (.agg [i64 x, i64 y]) = some ((a == x) && ((b == y) && true)) := by kernel_rfl
theorem eq23 {xo yo : Operand} {neg : Bool} {a b c d x y z t : Int} : eqE Try.prog neg 23 xo yo (.agg [i64 a, i64 b, i64 c, i64 d]) (.agg [i64 x, i64 y, i64 z, i64 t]) = some ⟨[], .v (.bool (negV neg ((a == x) && ((b == y) && ((c == z) && ((d == t) && true)))))), .none⟩ := eqE_agg aEq23
theorem eq25 {xo yo : Operand} {neg : Bool} {a b x y : Int} : eqE Try.prog neg 25 xo yo (.agg [i64 a, i64 b]) (.agg [i64 x, i64 y]) = some ⟨[], .v (.bool (negV neg ((a == x) && ((b == y) && true)))), .none⟩ := eqE_agg aEq25

theorem eq69 {xo yo : Operand} {neg : Bool} {u : TypeId} {a : AV} : eqE Try.prog neg 69 xo yo (.iface u a) (.v .nilIface) = some ⟨[], .v (.bool (negV neg false)), .none⟩ := eqE_iface Try.underlying69
theorem eq69n {xo : Operand} {v : Value} {neg : Bool} : eqE Try.prog neg 69 xo (.const v) (.v .nilIface) (.v .nilIface) = some ⟨[], .v (.bool (negV neg true)), .none⟩ := eqE_nilnil Try.underlying69
theorem mth92_has : methT Try.prog 92 "bagatelle/solid.has" = some 139 := by kernel_rfl
theorem mth66_has : methT Try.prog 66 "bagatelle/solid.has" = some 70 := by kernel_rfl
theorem mth92_box : methT Try.prog 92 "bagatelle/solid.box" = some 138 := by kernel_rfl
theorem mth66_box : methT Try.prog 66 "bagatelle/solid.box" = some 137 := by kernel_rfl

/-! ### Specifications -/
def okX (x : Int) : Bool := decide (-2097152 ≤ x ∧ x ≤ 2097152)
def validS (x y : Int) : Bool := okX x && okX y
def fairS (n : Nat) (X Y : Nat → Int) : Bool := decide (∀ i, i < n → validS (X i) (Y i) = true)
def gx (g : Nat → List AV) (k i : Nat) : Int := gi (g i) k
theorem gx_eq {g : Nat → List AV} {k i : Nat} : gx g k i = gi (g i) k := (rfl)
def spots (n : Nat) (g : Nat → List AV) : Prop := ∀ i, i < n → g i = [i64 (gx g 0 i), i64 (gx g 1 i)] ∧ inR (gx g 0 i) ∧ inR (gx g 1 i)
end Go.Ax
