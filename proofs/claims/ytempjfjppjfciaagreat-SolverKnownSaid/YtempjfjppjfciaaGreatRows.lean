/-
  No cell of these rows narrows 'for every input' (looked for: loops, veiled, ifaces, maps, wideKeys, modest, calm, conditions, laid).
  DERIVED. THE GIVEN ROWS OF THIS SEAT. 4 by the template 'for every input the law returns true; each argument reads behind the call as it read before'; 0 by the template 'total and deterministic' (their statements: YtempjfjppjfciaaGreatTotals.lean).
  GIVEN WITH THE SEED: the statements are not yours to turn. If you find one false, say at which input.
  Laid BY PROGRAM, IN A SANDBOX (cutbox-rows.mjs): the forced cells as the released guide's own fill.sh prints them over the translation 2ff4a8e5d36d695c… (all of the seat's roots in one cut). By AI agents, Wed Nov 11 2026. No macro, syntax, notation, axiom, sorry.
-/
import Derived.Test.YtempjfjppjfciaaGreatChecked
import GoSem.Claim
import GoSem.ClaimJoined
import GoSem.ClaimMapViews
import Derived.JoinedTies
import Derived.KernelRfl
namespace Go.Proofs.YtempjfjppjfciaaGreat
/- THE CELL 'sum', in the pinned program and in every row, IS THE sha256 OF THE DUMP (.gsa) THAT YtempjfjppjfciaaGreatProg.lean LOADS. Nothing in Lean hashes anything: it is a label: what it is worth is what the hold of that sum in a sandbox is worth. -/
noncomputable def Tryz.pinned : Pinned := { name := "ytempjfjppjfciaagreat", sum := "2ff4a8e5d36d695c61a52d8046c244a7fc8c96ad1644c21859cef25da8017fbb", checked := Tryz.checked }
namespace Rows
def none {H : Type} : Left H := { results := [], args := [] }

/-- 'bagatellelaw05.SolverStill': WHATEVER THE INPUT: true; the input reads as it did. -/
def solverStillSpec : ChangeSpec := { name := "solverStill", fn := fun _ => fun
  | [d1, d2, d3, d4, d5] => { results := [.lit (.bool true)], args := [d1, d2, d3, d4, d5] }
  | _ => none }
def solverStillRow : OpenClaim := { program := "ytempjfjppjfciaagreat", sum := "2ff4a8e5d36d695c61a52d8046c244a7fc8c96ad1644c21859cef25da8017fbb", func := "bagatelle/bagatellelaw05.SolverStill", spec := "solverStill", inPlace := ["math/bits.Add64", "math/bits.Sub64"], unfollowed := true, recurses := true, named := ["math/bits.divideError", "math/bits.overflowError"], apart := false }
def SolverStillSaid : Prop := solverStillRow.holds Tryz.pinned (OpenSpec.ofChange solverStillSpec)

/-- ITS FALSE NEIGHBOUR: 'it returns false'. Refute it at one input. -/
def solverStillWrong : ChangeSpec := { name := "solverStill", fn := fun _ => fun
  | [d1, d2, d3, d4, d5] => { results := [.lit (.bool false)], args := [d1, d2, d3, d4, d5] }
  | _ => none }
def SolverStillWrongFalsely : Prop := solverStillRow.holds Tryz.pinned (OpenSpec.ofChange solverStillWrong)

/-- 'bagatellelaw05.SolverValid': WHATEVER THE INPUT: true; the input reads as it did. -/
def solverValidSpec : ChangeSpec := { name := "solverValid", fn := fun _ => fun
  | [d1, d2, d3, d4, d5, d6] => { results := [.lit (.bool true)], args := [d1, d2, d3, d4, d5, d6] }
  | _ => none }
def solverValidRow : OpenClaim := { program := "ytempjfjppjfciaagreat", sum := "2ff4a8e5d36d695c61a52d8046c244a7fc8c96ad1644c21859cef25da8017fbb", func := "bagatelle/bagatellelaw05.SolverValid", spec := "solverValid", inPlace := ["math/bits.Add64", "math/bits.Sub64"], unfollowed := true, recurses := true, named := ["math/bits.divideError", "math/bits.overflowError"], apart := false }
def SolverValidSaid : Prop := solverValidRow.holds Tryz.pinned (OpenSpec.ofChange solverValidSpec)

/-- ITS FALSE NEIGHBOUR: 'it returns false'. Refute it at one input. -/
def solverValidWrong : ChangeSpec := { name := "solverValid", fn := fun _ => fun
  | [d1, d2, d3, d4, d5, d6] => { results := [.lit (.bool false)], args := [d1, d2, d3, d4, d5, d6] }
  | _ => none }
def SolverValidWrongFalsely : Prop := solverValidRow.holds Tryz.pinned (OpenSpec.ofChange solverValidWrong)

/-- 'bagatellelaw05.SolverTouching': WHATEVER THE INPUT: true; the input reads as it did. -/
def solverTouchingSpec : ChangeSpec := { name := "solverTouching", fn := fun _ => fun
  | [d1, d2] => { results := [.lit (.bool true)], args := [d1, d2] }
  | _ => none }
def solverTouchingRow : OpenClaim := { program := "ytempjfjppjfciaagreat", sum := "2ff4a8e5d36d695c61a52d8046c244a7fc8c96ad1644c21859cef25da8017fbb", func := "bagatelle/bagatellelaw05.SolverTouching", spec := "solverTouching", inPlace := ["math/bits.Add64", "math/bits.Sub64"], unfollowed := true, recurses := true, named := ["math/bits.divideError", "math/bits.overflowError"], apart := false }
def SolverTouchingSaid : Prop := solverTouchingRow.holds Tryz.pinned (OpenSpec.ofChange solverTouchingSpec)

/-- ITS FALSE NEIGHBOUR: 'it returns false'. Refute it at one input. -/
def solverTouchingWrong : ChangeSpec := { name := "solverTouching", fn := fun _ => fun
  | [d1, d2] => { results := [.lit (.bool false)], args := [d1, d2] }
  | _ => none }
def SolverTouchingWrongFalsely : Prop := solverTouchingRow.holds Tryz.pinned (OpenSpec.ofChange solverTouchingWrong)

/-- 'bagatellelaw05.SolverKnown': WHATEVER THE INPUT: true; the input reads as it did. -/
def solverKnownSpec : ChangeSpec := { name := "solverKnown", fn := fun _ => fun
  | [] => { results := [.lit (.bool true)], args := [] }
  | _ => none }
def solverKnownRow : OpenClaim := { program := "ytempjfjppjfciaagreat", sum := "2ff4a8e5d36d695c61a52d8046c244a7fc8c96ad1644c21859cef25da8017fbb", func := "bagatelle/bagatellelaw05.SolverKnown", spec := "solverKnown", inPlace := ["math/bits.Add64", "math/bits.Sub64"], unfollowed := true, recurses := true, named := ["math/bits.divideError", "math/bits.overflowError"], apart := false }
def SolverKnownSaid : Prop := solverKnownRow.holds Tryz.pinned (OpenSpec.ofChange solverKnownSpec)

/-- ITS FALSE NEIGHBOUR: 'it returns false'. Refute it at one input. -/
def solverKnownWrong : ChangeSpec := { name := "solverKnown", fn := fun _ => fun
  | [] => { results := [.lit (.bool false)], args := [] }
  | _ => none }
def SolverKnownWrongFalsely : Prop := solverKnownRow.holds Tryz.pinned (OpenSpec.ofChange solverKnownWrong)

/- THE SECOND FORM. 'bulk': how many values and letters a reading holds, each counted each time it is reached (what is shared counts as often as it is met; a slice's spare places count too). A statement '..UptoSaid' is the law's where the arguments, and the package variables that the reading takes, are together of bulk at most 1048576: NARROWER than '..Said'. Prove '..Said' where nothing that the law and all that it calls make is longer than what came in: it says more and counts as full. Else prove '..UptoSaid'. A law counts once. -/
mutual
def uptoBulk {H : Type} : DataW H → Nat
  | .lit (.string bytes) => bytes.length + 1
  | .lit _ => 1
  | .nil => 1
  | .ptr d => uptoBulk d + 1
  | .slice elems spare => uptoBulkAll elems + uptoBulkAll spare + 1
  | .agg parts => uptoBulkAll parts + 1
  | .iface _ d => uptoBulk d + 1
  | .map entries => uptoBulkEntries entries + 1
  | .held _ => 1
def uptoBulkAll {H : Type} : List (DataW H) → Nat
  | [] => 0
  | d :: r => uptoBulk d + uptoBulkAll r
def uptoBulkEntries {H : Type} : List (Lit × DataW H) → Nat
  | [] => 0
  | x :: r => uptoBulkEntry x + uptoBulkEntries r
def uptoBulkEntry {H : Type} : Lit × DataW H → Nat
  | (.string bytes, d) => bytes.length + uptoBulk d + 1
  | (_, d) => uptoBulk d + 1
 end
def uptoSmall : (H : Type) → List (DataW H) → Bool := fun _ ds => decide (uptoBulkAll ds ≤ 1048576)
def OpenSpec.upto (s : _root_.Go.ChangeSpec) : _root_.Go.OpenSpec := { _root_.Go.OpenSpec.ofChange s with cond := some uptoSmall }

/-- 'bagatellelaw05.SolverStill', WHERE WHAT IT READS IS OF BULK AT MOST 1048576: true; the input reads as it did. -/
def solverStillUptoRow : OpenClaim := { program := "ytempjfjppjfciaagreat", sum := "2ff4a8e5d36d695c61a52d8046c244a7fc8c96ad1644c21859cef25da8017fbb", func := "bagatelle/bagatellelaw05.SolverStill", spec := "solverStill", inPlace := ["math/bits.Add64", "math/bits.Sub64"], unfollowed := true, recurses := true, named := ["math/bits.divideError", "math/bits.overflowError"], apart := false, narrowed := true }
def SolverStillUptoSaid : Prop := solverStillUptoRow.holds Tryz.pinned (OpenSpec.upto solverStillSpec)

/-- 'bagatellelaw05.SolverValid', WHERE WHAT IT READS IS OF BULK AT MOST 1048576: true; the input reads as it did. -/
def solverValidUptoRow : OpenClaim := { program := "ytempjfjppjfciaagreat", sum := "2ff4a8e5d36d695c61a52d8046c244a7fc8c96ad1644c21859cef25da8017fbb", func := "bagatelle/bagatellelaw05.SolverValid", spec := "solverValid", inPlace := ["math/bits.Add64", "math/bits.Sub64"], unfollowed := true, recurses := true, named := ["math/bits.divideError", "math/bits.overflowError"], apart := false, narrowed := true }
def SolverValidUptoSaid : Prop := solverValidUptoRow.holds Tryz.pinned (OpenSpec.upto solverValidSpec)

/-- 'bagatellelaw05.SolverTouching', WHERE WHAT IT READS IS OF BULK AT MOST 1048576: true; the input reads as it did. -/
def solverTouchingUptoRow : OpenClaim := { program := "ytempjfjppjfciaagreat", sum := "2ff4a8e5d36d695c61a52d8046c244a7fc8c96ad1644c21859cef25da8017fbb", func := "bagatelle/bagatellelaw05.SolverTouching", spec := "solverTouching", inPlace := ["math/bits.Add64", "math/bits.Sub64"], unfollowed := true, recurses := true, named := ["math/bits.divideError", "math/bits.overflowError"], apart := false, narrowed := true }
def SolverTouchingUptoSaid : Prop := solverTouchingUptoRow.holds Tryz.pinned (OpenSpec.upto solverTouchingSpec)

/-- 'bagatellelaw05.SolverKnown', WHERE WHAT IT READS IS OF BULK AT MOST 1048576: true; the input reads as it did. -/
def solverKnownUptoRow : OpenClaim := { program := "ytempjfjppjfciaagreat", sum := "2ff4a8e5d36d695c61a52d8046c244a7fc8c96ad1644c21859cef25da8017fbb", func := "bagatelle/bagatellelaw05.SolverKnown", spec := "solverKnown", inPlace := ["math/bits.Add64", "math/bits.Sub64"], unfollowed := true, recurses := true, named := ["math/bits.divideError", "math/bits.overflowError"], apart := false, narrowed := true }
def SolverKnownUptoSaid : Prop := solverKnownUptoRow.holds Tryz.pinned (OpenSpec.upto solverKnownSpec)

end Rows
end Go.Proofs.YtempjfjppjfciaaGreat
