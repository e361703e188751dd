/-
  No cell of these rows narrows 'for every input' (looked for: loops, veiled, ifaces, maps, wideKeys, modest, calm, conditions, laid).
  DERIVED. THE GIVEN ROWS OF THIS SEAT. 11 by the template 'for every input the law returns true; each argument reads behind the call as it read before'; 0 by the template 'total and deterministic' (their statements: YtafigekkhpepkaaGreatTotals.lean).
  GIVEN WITH THE SEED: the statements are not yours to turn. If you find one false, say at which input.
  Laid BY PROGRAM, IN A SANDBOX (cutbox-rows.mjs): the forced cells as the released guide's own fill.sh prints them over the translation b1161c0a4a3d112a… (all of the seat's roots in one cut). By AI agents, Wed Nov 11 2026. No macro, syntax, notation, axiom, sorry.
-/
import Derived.Test.YtafigekkhpepkaaGreatChecked
import GoSem.Claim
import GoSem.ClaimJoined
import GoSem.ClaimMapViews
import Derived.JoinedTies
import Derived.KernelRfl
namespace Go.Proofs.YtafigekkhpepkaaGreat
/- THE CELL 'sum', in the pinned program and in every row, IS THE sha256 OF THE DUMP (.gsa) THAT YtafigekkhpepkaaGreatProg.lean LOADS. Nothing in Lean hashes anything: it is a label: what it is worth is what the hold of that sum in a sandbox is worth. -/
noncomputable def Tryz.pinned : Pinned := { name := "ytafigekkhpepkaagreat", sum := "b1161c0a4a3d112a4fb3c28f07afa36bcd6d19b69f9dde7ad6540b5573739189", checked := Tryz.checked }
namespace Rows
def none {H : Type} : Left H := { results := [], args := [] }

/-- 'bagatellelaw05.SolverParts': WHATEVER THE INPUT: true; the input reads as it did. -/
def solverPartsSpec : ChangeSpec := { name := "solverParts", fn := fun _ => fun
  | [d1, d2] => { results := [.lit (.bool true)], args := [d1, d2] }
  | _ => none }
def solverPartsRow : OpenClaim := { program := "ytafigekkhpepkaagreat", sum := "b1161c0a4a3d112a4fb3c28f07afa36bcd6d19b69f9dde7ad6540b5573739189", func := "bagatelle/bagatellelaw05.SolverParts", spec := "solverParts", inPlace := ["math/bits.Add64", "math/bits.Sub64"], unfollowed := true, recurses := true, named := ["math/bits.divideError", "math/bits.overflowError"], apart := false }
def SolverPartsSaid : Prop := solverPartsRow.holds Tryz.pinned (OpenSpec.ofChange solverPartsSpec)

/-- ITS FALSE NEIGHBOUR: 'it returns false'. Refute it at one input. -/
def solverPartsWrong : ChangeSpec := { name := "solverParts", fn := fun _ => fun
  | [d1, d2] => { results := [.lit (.bool false)], args := [d1, d2] }
  | _ => none }
def SolverPartsWrongFalsely : Prop := solverPartsRow.holds Tryz.pinned (OpenSpec.ofChange solverPartsWrong)

/-- 'bagatellelaw05.SolverHits': WHATEVER THE INPUT: true; the input reads as it did. -/
def solverHitsSpec : ChangeSpec := { name := "solverHits", fn := fun _ => fun
  | [d1, d2] => { results := [.lit (.bool true)], args := [d1, d2] }
  | _ => none }
def solverHitsRow : OpenClaim := { program := "ytafigekkhpepkaagreat", sum := "b1161c0a4a3d112a4fb3c28f07afa36bcd6d19b69f9dde7ad6540b5573739189", func := "bagatelle/bagatellelaw05.SolverHits", spec := "solverHits", inPlace := ["math/bits.Add64", "math/bits.Sub64"], unfollowed := true, recurses := true, named := ["math/bits.divideError", "math/bits.overflowError"], apart := false }
def SolverHitsSaid : Prop := solverHitsRow.holds Tryz.pinned (OpenSpec.ofChange solverHitsSpec)

/-- ITS FALSE NEIGHBOUR: 'it returns false'. Refute it at one input. -/
def solverHitsWrong : ChangeSpec := { name := "solverHits", fn := fun _ => fun
  | [d1, d2] => { results := [.lit (.bool false)], args := [d1, d2] }
  | _ => none }
def SolverHitsWrongFalsely : Prop := solverHitsRow.holds Tryz.pinned (OpenSpec.ofChange solverHitsWrong)

/-- 'bagatellelaw05.SolverCone': WHATEVER THE INPUT: true; the input reads as it did. -/
def solverConeSpec : ChangeSpec := { name := "solverCone", fn := fun _ => fun
  | [d1, d2, d3, d4] => { results := [.lit (.bool true)], args := [d1, d2, d3, d4] }
  | _ => none }
def solverConeRow : OpenClaim := { program := "ytafigekkhpepkaagreat", sum := "b1161c0a4a3d112a4fb3c28f07afa36bcd6d19b69f9dde7ad6540b5573739189", func := "bagatelle/bagatellelaw05.SolverCone", spec := "solverCone", inPlace := ["math/bits.Add64", "math/bits.Sub64"], unfollowed := true, recurses := true, named := ["math/bits.divideError", "math/bits.overflowError"], apart := false }
def SolverConeSaid : Prop := solverConeRow.holds Tryz.pinned (OpenSpec.ofChange solverConeSpec)

/-- ITS FALSE NEIGHBOUR: 'it returns false'. Refute it at one input. -/
def solverConeWrong : ChangeSpec := { name := "solverCone", fn := fun _ => fun
  | [d1, d2, d3, d4] => { results := [.lit (.bool false)], args := [d1, d2, d3, d4] }
  | _ => none }
def SolverConeWrongFalsely : Prop := solverConeRow.holds Tryz.pinned (OpenSpec.ofChange solverConeWrong)

/-- 'bagatellelaw05.SolverLeaves': WHATEVER THE INPUT: true; the input reads as it did. -/
def solverLeavesSpec : ChangeSpec := { name := "solverLeaves", fn := fun _ => fun
  | [d1, d2] => { results := [.lit (.bool true)], args := [d1, d2] }
  | _ => none }
def solverLeavesRow : OpenClaim := { program := "ytafigekkhpepkaagreat", sum := "b1161c0a4a3d112a4fb3c28f07afa36bcd6d19b69f9dde7ad6540b5573739189", func := "bagatelle/bagatellelaw05.SolverLeaves", spec := "solverLeaves", inPlace := ["math/bits.Add64", "math/bits.Sub64"], unfollowed := true, recurses := true, named := ["math/bits.divideError", "math/bits.overflowError"], apart := false }
def SolverLeavesSaid : Prop := solverLeavesRow.holds Tryz.pinned (OpenSpec.ofChange solverLeavesSpec)

/-- ITS FALSE NEIGHBOUR: 'it returns false'. Refute it at one input. -/
def solverLeavesWrong : ChangeSpec := { name := "solverLeaves", fn := fun _ => fun
  | [d1, d2] => { results := [.lit (.bool false)], args := [d1, d2] }
  | _ => none }
def SolverLeavesWrongFalsely : Prop := solverLeavesRow.holds Tryz.pinned (OpenSpec.ofChange solverLeavesWrong)

/-- 'bagatellelaw05.SolverMoves': WHATEVER THE INPUT: true; the input reads as it did. -/
def solverMovesSpec : ChangeSpec := { name := "solverMoves", fn := fun _ => fun
  | [d1, d2, d3, d4] => { results := [.lit (.bool true)], args := [d1, d2, d3, d4] }
  | _ => none }
def solverMovesRow : OpenClaim := { program := "ytafigekkhpepkaagreat", sum := "b1161c0a4a3d112a4fb3c28f07afa36bcd6d19b69f9dde7ad6540b5573739189", func := "bagatelle/bagatellelaw05.SolverMoves", spec := "solverMoves", inPlace := ["math/bits.Add64", "math/bits.Sub64"], unfollowed := true, recurses := true, named := ["math/bits.divideError", "math/bits.overflowError"], apart := false }
def SolverMovesSaid : Prop := solverMovesRow.holds Tryz.pinned (OpenSpec.ofChange solverMovesSpec)

/-- ITS FALSE NEIGHBOUR: 'it returns false'. Refute it at one input. -/
def solverMovesWrong : ChangeSpec := { name := "solverMoves", fn := fun _ => fun
  | [d1, d2, d3, d4] => { results := [.lit (.bool false)], args := [d1, d2, d3, d4] }
  | _ => none }
def SolverMovesWrongFalsely : Prop := solverMovesRow.holds Tryz.pinned (OpenSpec.ofChange solverMovesWrong)

/-- 'bagatellelaw05.SolverSleeps': WHATEVER THE INPUT: true; the input reads as it did. -/
def solverSleepsSpec : ChangeSpec := { name := "solverSleeps", fn := fun _ => fun
  | [d1, d2] => { results := [.lit (.bool true)], args := [d1, d2] }
  | _ => none }
def solverSleepsRow : OpenClaim := { program := "ytafigekkhpepkaagreat", sum := "b1161c0a4a3d112a4fb3c28f07afa36bcd6d19b69f9dde7ad6540b5573739189", func := "bagatelle/bagatellelaw05.SolverSleeps", spec := "solverSleeps", inPlace := ["math/bits.Add64", "math/bits.Sub64"], unfollowed := true, recurses := true, named := ["math/bits.divideError", "math/bits.overflowError"], apart := false }
def SolverSleepsSaid : Prop := solverSleepsRow.holds Tryz.pinned (OpenSpec.ofChange solverSleepsSpec)

/-- ITS FALSE NEIGHBOUR: 'it returns false'. Refute it at one input. -/
def solverSleepsWrong : ChangeSpec := { name := "solverSleeps", fn := fun _ => fun
  | [d1, d2] => { results := [.lit (.bool false)], args := [d1, d2] }
  | _ => none }
def SolverSleepsWrongFalsely : Prop := solverSleepsRow.holds Tryz.pinned (OpenSpec.ofChange solverSleepsWrong)

/-- 'bagatellelaw05.SolverBinds': WHATEVER THE INPUT: true; the input reads as it did. -/
def solverBindsSpec : ChangeSpec := { name := "solverBinds", fn := fun _ => fun
  | [d1, d2, d3, d4] => { results := [.lit (.bool true)], args := [d1, d2, d3, d4] }
  | _ => none }
def solverBindsRow : OpenClaim := { program := "ytafigekkhpepkaagreat", sum := "b1161c0a4a3d112a4fb3c28f07afa36bcd6d19b69f9dde7ad6540b5573739189", func := "bagatelle/bagatellelaw05.SolverBinds", spec := "solverBinds", inPlace := ["math/bits.Add64", "math/bits.Sub64"], unfollowed := true, recurses := true, named := ["math/bits.divideError", "math/bits.overflowError"], apart := false }
def SolverBindsSaid : Prop := solverBindsRow.holds Tryz.pinned (OpenSpec.ofChange solverBindsSpec)

/-- ITS FALSE NEIGHBOUR: 'it returns false'. Refute it at one input. -/
def solverBindsWrong : ChangeSpec := { name := "solverBinds", fn := fun _ => fun
  | [d1, d2, d3, d4] => { results := [.lit (.bool false)], args := [d1, d2, d3, d4] }
  | _ => none }
def SolverBindsWrongFalsely : Prop := solverBindsRow.holds Tryz.pinned (OpenSpec.ofChange solverBindsWrong)

/-- 'bagatellelaw05.SolverBalance': WHATEVER THE INPUT: true; the input reads as it did. -/
def solverBalanceSpec : ChangeSpec := { name := "solverBalance", fn := fun _ => fun
  | [d1, d2, d3] => { results := [.lit (.bool true)], args := [d1, d2, d3] }
  | _ => none }
def solverBalanceRow : OpenClaim := { program := "ytafigekkhpepkaagreat", sum := "b1161c0a4a3d112a4fb3c28f07afa36bcd6d19b69f9dde7ad6540b5573739189", func := "bagatelle/bagatellelaw05.SolverBalance", spec := "solverBalance", inPlace := ["math/bits.Add64", "math/bits.Sub64"], unfollowed := true, recurses := true, named := ["math/bits.divideError", "math/bits.overflowError"], apart := false }
def SolverBalanceSaid : Prop := solverBalanceRow.holds Tryz.pinned (OpenSpec.ofChange solverBalanceSpec)

/-- ITS FALSE NEIGHBOUR: 'it returns false'. Refute it at one input. -/
def solverBalanceWrong : ChangeSpec := { name := "solverBalance", fn := fun _ => fun
  | [d1, d2, d3] => { results := [.lit (.bool false)], args := [d1, d2, d3] }
  | _ => none }
def SolverBalanceWrongFalsely : Prop := solverBalanceRow.holds Tryz.pinned (OpenSpec.ofChange solverBalanceWrong)

/-- 'bagatellelaw05.SolverSolves': WHATEVER THE INPUT: true; the input reads as it did. -/
def solverSolvesSpec : ChangeSpec := { name := "solverSolves", fn := fun _ => fun
  | [d1, d2, d3, d4, d5] => { results := [.lit (.bool true)], args := [d1, d2, d3, d4, d5] }
  | _ => none }
def solverSolvesRow : OpenClaim := { program := "ytafigekkhpepkaagreat", sum := "b1161c0a4a3d112a4fb3c28f07afa36bcd6d19b69f9dde7ad6540b5573739189", func := "bagatelle/bagatellelaw05.SolverSolves", spec := "solverSolves", inPlace := ["math/bits.Add64", "math/bits.Sub64"], unfollowed := true, recurses := true, named := ["math/bits.divideError", "math/bits.overflowError"], apart := false }
def SolverSolvesSaid : Prop := solverSolvesRow.holds Tryz.pinned (OpenSpec.ofChange solverSolvesSpec)

/-- ITS FALSE NEIGHBOUR: 'it returns false'. Refute it at one input. -/
def solverSolvesWrong : ChangeSpec := { name := "solverSolves", fn := fun _ => fun
  | [d1, d2, d3, d4, d5] => { results := [.lit (.bool false)], args := [d1, d2, d3, d4, d5] }
  | _ => none }
def SolverSolvesWrongFalsely : Prop := solverSolvesRow.holds Tryz.pinned (OpenSpec.ofChange solverSolvesWrong)

/-- 'bagatellelaw05.SolverNothing': WHATEVER THE INPUT: true; the input reads as it did. -/
def solverNothingSpec : ChangeSpec := { name := "solverNothing", fn := fun _ => fun
  | [d1, d2, d3] => { results := [.lit (.bool true)], args := [d1, d2, d3] }
  | _ => none }
def solverNothingRow : OpenClaim := { program := "ytafigekkhpepkaagreat", sum := "b1161c0a4a3d112a4fb3c28f07afa36bcd6d19b69f9dde7ad6540b5573739189", func := "bagatelle/bagatellelaw05.SolverNothing", spec := "solverNothing", inPlace := ["math/bits.Add64", "math/bits.Sub64"], unfollowed := true, recurses := true, named := ["math/bits.divideError", "math/bits.overflowError"], apart := false }
def SolverNothingSaid : Prop := solverNothingRow.holds Tryz.pinned (OpenSpec.ofChange solverNothingSpec)

/-- ITS FALSE NEIGHBOUR: 'it returns false'. Refute it at one input. -/
def solverNothingWrong : ChangeSpec := { name := "solverNothing", fn := fun _ => fun
  | [d1, d2, d3] => { results := [.lit (.bool false)], args := [d1, d2, d3] }
  | _ => none }
def SolverNothingWrongFalsely : Prop := solverNothingRow.holds Tryz.pinned (OpenSpec.ofChange solverNothingWrong)

/-- 'bagatellelaw05.SolverForms': WHATEVER THE INPUT: true; the input reads as it did. -/
def solverFormsSpec : ChangeSpec := { name := "solverForms", fn := fun _ => fun
  | [d1, d2, d3] => { results := [.lit (.bool true)], args := [d1, d2, d3] }
  | _ => none }
def solverFormsRow : OpenClaim := { program := "ytafigekkhpepkaagreat", sum := "b1161c0a4a3d112a4fb3c28f07afa36bcd6d19b69f9dde7ad6540b5573739189", func := "bagatelle/bagatellelaw05.SolverForms", spec := "solverForms", inPlace := ["math/bits.Add64", "math/bits.Sub64"], unfollowed := true, recurses := true, named := ["math/bits.divideError", "math/bits.overflowError"], apart := false }
def SolverFormsSaid : Prop := solverFormsRow.holds Tryz.pinned (OpenSpec.ofChange solverFormsSpec)

/-- ITS FALSE NEIGHBOUR: 'it returns false'. Refute it at one input. -/
def solverFormsWrong : ChangeSpec := { name := "solverForms", fn := fun _ => fun
  | [d1, d2, d3] => { results := [.lit (.bool false)], args := [d1, d2, d3] }
  | _ => none }
def SolverFormsWrongFalsely : Prop := solverFormsRow.holds Tryz.pinned (OpenSpec.ofChange solverFormsWrong)

/- THE SECOND FORM. 'bulk': how many values and letters a reading holds, each counted each time it is reached (what is shared counts as often as it is met; a slice's spare places count too). A statement '..UptoSaid' is the law's where the arguments, and the package variables that the reading takes, are together of bulk at most 1048576: NARROWER than '..Said'. Prove '..Said' where nothing that the law and all that it calls make is longer than what came in: it says more and counts as full. Else prove '..UptoSaid'. A law counts once. -/
mutual
def uptoBulk {H : Type} : DataW H → Nat
  | .lit (.string bytes) => bytes.length + 1
  | .lit _ => 1
  | .nil => 1
  | .ptr d => uptoBulk d + 1
  | .slice elems spare => uptoBulkAll elems + uptoBulkAll spare + 1
  | .agg parts => uptoBulkAll parts + 1
  | .iface _ d => uptoBulk d + 1
  | .map entries => uptoBulkEntries entries + 1
  | .held _ => 1
def uptoBulkAll {H : Type} : List (DataW H) → Nat
  | [] => 0
  | d :: r => uptoBulk d + uptoBulkAll r
def uptoBulkEntries {H : Type} : List (Lit × DataW H) → Nat
  | [] => 0
  | x :: r => uptoBulkEntry x + uptoBulkEntries r
def uptoBulkEntry {H : Type} : Lit × DataW H → Nat
  | (.string bytes, d) => bytes.length + uptoBulk d + 1
  | (_, d) => uptoBulk d + 1
 end
def uptoSmall : (H : Type) → List (DataW H) → Bool := fun _ ds => decide (uptoBulkAll ds ≤ 1048576)
def OpenSpec.upto (s : _root_.Go.ChangeSpec) : _root_.Go.OpenSpec := { _root_.Go.OpenSpec.ofChange s with cond := some uptoSmall }

/-- 'bagatellelaw05.SolverParts', WHERE WHAT IT READS IS OF BULK AT MOST 1048576: true; the input reads as it did. -/
def solverPartsUptoRow : OpenClaim := { program := "ytafigekkhpepkaagreat", sum := "b1161c0a4a3d112a4fb3c28f07afa36bcd6d19b69f9dde7ad6540b5573739189", func := "bagatelle/bagatellelaw05.SolverParts", spec := "solverParts", inPlace := ["math/bits.Add64", "math/bits.Sub64"], unfollowed := true, recurses := true, named := ["math/bits.divideError", "math/bits.overflowError"], apart := false, narrowed := true }
def SolverPartsUptoSaid : Prop := solverPartsUptoRow.holds Tryz.pinned (OpenSpec.upto solverPartsSpec)

/-- 'bagatellelaw05.SolverHits', WHERE WHAT IT READS IS OF BULK AT MOST 1048576: true; the input reads as it did. -/
def solverHitsUptoRow : OpenClaim := { program := "ytafigekkhpepkaagreat", sum := "b1161c0a4a3d112a4fb3c28f07afa36bcd6d19b69f9dde7ad6540b5573739189", func := "bagatelle/bagatellelaw05.SolverHits", spec := "solverHits", inPlace := ["math/bits.Add64", "math/bits.Sub64"], unfollowed := true, recurses := true, named := ["math/bits.divideError", "math/bits.overflowError"], apart := false, narrowed := true }
def SolverHitsUptoSaid : Prop := solverHitsUptoRow.holds Tryz.pinned (OpenSpec.upto solverHitsSpec)

/-- 'bagatellelaw05.SolverCone', WHERE WHAT IT READS IS OF BULK AT MOST 1048576: true; the input reads as it did. -/
def solverConeUptoRow : OpenClaim := { program := "ytafigekkhpepkaagreat", sum := "b1161c0a4a3d112a4fb3c28f07afa36bcd6d19b69f9dde7ad6540b5573739189", func := "bagatelle/bagatellelaw05.SolverCone", spec := "solverCone", inPlace := ["math/bits.Add64", "math/bits.Sub64"], unfollowed := true, recurses := true, named := ["math/bits.divideError", "math/bits.overflowError"], apart := false, narrowed := true }
def SolverConeUptoSaid : Prop := solverConeUptoRow.holds Tryz.pinned (OpenSpec.upto solverConeSpec)

/-- 'bagatellelaw05.SolverLeaves', WHERE WHAT IT READS IS OF BULK AT MOST 1048576: true; the input reads as it did. -/
def solverLeavesUptoRow : OpenClaim := { program := "ytafigekkhpepkaagreat", sum := "b1161c0a4a3d112a4fb3c28f07afa36bcd6d19b69f9dde7ad6540b5573739189", func := "bagatelle/bagatellelaw05.SolverLeaves", spec := "solverLeaves", inPlace := ["math/bits.Add64", "math/bits.Sub64"], unfollowed := true, recurses := true, named := ["math/bits.divideError", "math/bits.overflowError"], apart := false, narrowed := true }
def SolverLeavesUptoSaid : Prop := solverLeavesUptoRow.holds Tryz.pinned (OpenSpec.upto solverLeavesSpec)

/-- 'bagatellelaw05.SolverMoves', WHERE WHAT IT READS IS OF BULK AT MOST 1048576: true; the input reads as it did. -/
def solverMovesUptoRow : OpenClaim := { program := "ytafigekkhpepkaagreat", sum := "b1161c0a4a3d112a4fb3c28f07afa36bcd6d19b69f9dde7ad6540b5573739189", func := "bagatelle/bagatellelaw05.SolverMoves", spec := "solverMoves", inPlace := ["math/bits.Add64", "math/bits.Sub64"], unfollowed := true, recurses := true, named := ["math/bits.divideError", "math/bits.overflowError"], apart := false, narrowed := true }
def SolverMovesUptoSaid : Prop := solverMovesUptoRow.holds Tryz.pinned (OpenSpec.upto solverMovesSpec)

/-- 'bagatellelaw05.SolverSleeps', WHERE WHAT IT READS IS OF BULK AT MOST 1048576: true; the input reads as it did. -/
def solverSleepsUptoRow : OpenClaim := { program := "ytafigekkhpepkaagreat", sum := "b1161c0a4a3d112a4fb3c28f07afa36bcd6d19b69f9dde7ad6540b5573739189", func := "bagatelle/bagatellelaw05.SolverSleeps", spec := "solverSleeps", inPlace := ["math/bits.Add64", "math/bits.Sub64"], unfollowed := true, recurses := true, named := ["math/bits.divideError", "math/bits.overflowError"], apart := false, narrowed := true }
def SolverSleepsUptoSaid : Prop := solverSleepsUptoRow.holds Tryz.pinned (OpenSpec.upto solverSleepsSpec)

/-- 'bagatellelaw05.SolverBinds', WHERE WHAT IT READS IS OF BULK AT MOST 1048576: true; the input reads as it did. -/
def solverBindsUptoRow : OpenClaim := { program := "ytafigekkhpepkaagreat", sum := "b1161c0a4a3d112a4fb3c28f07afa36bcd6d19b69f9dde7ad6540b5573739189", func := "bagatelle/bagatellelaw05.SolverBinds", spec := "solverBinds", inPlace := ["math/bits.Add64", "math/bits.Sub64"], unfollowed := true, recurses := true, named := ["math/bits.divideError", "math/bits.overflowError"], apart := false, narrowed := true }
def SolverBindsUptoSaid : Prop := solverBindsUptoRow.holds Tryz.pinned (OpenSpec.upto solverBindsSpec)

/-- 'bagatellelaw05.SolverBalance', WHERE WHAT IT READS IS OF BULK AT MOST 1048576: true; the input reads as it did. -/
def solverBalanceUptoRow : OpenClaim := { program := "ytafigekkhpepkaagreat", sum := "b1161c0a4a3d112a4fb3c28f07afa36bcd6d19b69f9dde7ad6540b5573739189", func := "bagatelle/bagatellelaw05.SolverBalance", spec := "solverBalance", inPlace := ["math/bits.Add64", "math/bits.Sub64"], unfollowed := true, recurses := true, named := ["math/bits.divideError", "math/bits.overflowError"], apart := false, narrowed := true }
def SolverBalanceUptoSaid : Prop := solverBalanceUptoRow.holds Tryz.pinned (OpenSpec.upto solverBalanceSpec)

/-- 'bagatellelaw05.SolverSolves', WHERE WHAT IT READS IS OF BULK AT MOST 1048576: true; the input reads as it did. -/
def solverSolvesUptoRow : OpenClaim := { program := "ytafigekkhpepkaagreat", sum := "b1161c0a4a3d112a4fb3c28f07afa36bcd6d19b69f9dde7ad6540b5573739189", func := "bagatelle/bagatellelaw05.SolverSolves", spec := "solverSolves", inPlace := ["math/bits.Add64", "math/bits.Sub64"], unfollowed := true, recurses := true, named := ["math/bits.divideError", "math/bits.overflowError"], apart := false, narrowed := true }
def SolverSolvesUptoSaid : Prop := solverSolvesUptoRow.holds Tryz.pinned (OpenSpec.upto solverSolvesSpec)

/-- 'bagatellelaw05.SolverNothing', WHERE WHAT IT READS IS OF BULK AT MOST 1048576: true; the input reads as it did. -/
def solverNothingUptoRow : OpenClaim := { program := "ytafigekkhpepkaagreat", sum := "b1161c0a4a3d112a4fb3c28f07afa36bcd6d19b69f9dde7ad6540b5573739189", func := "bagatelle/bagatellelaw05.SolverNothing", spec := "solverNothing", inPlace := ["math/bits.Add64", "math/bits.Sub64"], unfollowed := true, recurses := true, named := ["math/bits.divideError", "math/bits.overflowError"], apart := false, narrowed := true }
def SolverNothingUptoSaid : Prop := solverNothingUptoRow.holds Tryz.pinned (OpenSpec.upto solverNothingSpec)

/-- 'bagatellelaw05.SolverForms', WHERE WHAT IT READS IS OF BULK AT MOST 1048576: true; the input reads as it did. -/
def solverFormsUptoRow : OpenClaim := { program := "ytafigekkhpepkaagreat", sum := "b1161c0a4a3d112a4fb3c28f07afa36bcd6d19b69f9dde7ad6540b5573739189", func := "bagatelle/bagatellelaw05.SolverForms", spec := "solverForms", inPlace := ["math/bits.Add64", "math/bits.Sub64"], unfollowed := true, recurses := true, named := ["math/bits.divideError", "math/bits.overflowError"], apart := false, narrowed := true }
def SolverFormsUptoSaid : Prop := solverFormsUptoRow.holds Tryz.pinned (OpenSpec.upto solverFormsSpec)

end Rows
end Go.Proofs.YtafigekkhpepkaaGreat
