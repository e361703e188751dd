/-
  Laws about lists of contacts and joints: their arguments.
-/
import Derived.Test.YtafigekkhpepkaaGreatCM8
set_option linter.unusedVariables false
set_option linter.unusedSimpArgs false
set_option maxHeartbeats 4000000
set_option maxRecDepth 100000
namespace Go.Ax
open Go.Proofs
abbrev shJ : List Sh := [.int .i64, .int .i64, .int .i64, .int .i64, .bool, .int .i64, .bool, .int .i64, .bool, .int .i64, .bool, .int .i64, .bool]
theorem rowJ {l : List AV} (h : fitS shJ l) : l = jtC (jtD l) ∧ inJ (jtD l) := by
  obtain ⟨_, _, rfl, ⟨x0, rfl, k0⟩, _, _, rfl, ⟨x1, rfl, k1⟩, _, _, rfl, ⟨x2, rfl, k2⟩, _, _, rfl, ⟨y0, rfl, m0⟩, _, _, rfl, ⟨e0, rfl⟩, _, _, rfl, ⟨y1, rfl, m1⟩, _, _, rfl, ⟨e1, rfl⟩, _, _, rfl, ⟨y2, rfl, m2⟩, _, _, rfl, ⟨e2, rfl⟩, _, _, rfl, ⟨y3, rfl, m3⟩, _, _, rfl, ⟨e3, rfl⟩, _, _, rfl, ⟨y4, rfl, m4⟩, _, _, rfl, ⟨e4, rfl⟩, rfl⟩ := h
  exact ⟨rfl, wf_i64 m0, wf_i64 m1, wf_i64 m2, wf_i64 m3, wf_i64 m4⟩
theorem rowsJ {get : Nat → List AV} (h : ∀ i, fitS shJ (get i)) : get = jsC (jsD get) ∧ ∀ i, inJ (jsD get i) :=
  ⟨funext fun i => (rowJ (h i)).1, fun i => (rowJ (h i)).2⟩
theorem rowsC {get : Nat → List AV} (h : ∀ i, fitS shC (get i)) : get = csC (csD get) ∧ ∀ i, inC (csD get i) ∧ (csD get i).n ≤ 9223372036854775807 :=
  ⟨funext fun i => (rowC (h i)).1, fun i => (rowC (h i)).2⟩
end Go.Ax
