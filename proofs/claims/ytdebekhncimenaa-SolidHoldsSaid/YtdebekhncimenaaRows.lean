/-
  No cell of these rows narrows 'for every input' (looked for: loops, veiled, ifaces, maps, wideKeys, modest, calm, conditions, laid).
  DERIVED. THE GIVEN ROWS OF THIS SEAT. 6 by the template 'for every input the law returns true; each argument reads behind the call as it read before'; 0 by the template 'total and deterministic' (their statements: YtdebekhncimenaaTotals.lean).
  GIVEN WITH THE SEED: the statements are not yours to turn. If you find one false, say at which input.
  Laid BY PROGRAM, IN A SANDBOX (cutbox-rows.mjs): the forced cells as the released guide's own fill.sh prints them over the translation ee952e20e3e86b5d… (all of the seat's roots in one cut). By AI agents, Wed Nov 11 2026. No macro, syntax, notation, axiom, sorry.
-/
import Derived.Test.YtdebekhncimenaaChecked
import GoSem.Claim
import GoSem.ClaimJoined
import GoSem.ClaimMapViews
import Derived.JoinedTies
import Derived.KernelRfl
namespace Go.Proofs.Ytdebekhncimenaa
/- THE CELL 'sum', in the pinned program and in every row, IS THE sha256 OF THE DUMP (.gsa) THAT YtdebekhncimenaaProg.lean LOADS. Nothing in Lean hashes anything: it is a label: what it is worth is what the hold of that sum in a sandbox is worth. -/
noncomputable def Try.pinned : Pinned := { name := "ytdebekhncimenaa", sum := "ee952e20e3e86b5d20e099a681bd23255cb228bf940c06ce23d6c2b0b3b26294", checked := Try.checked }
namespace Rows
def none {H : Type} : Left H := { results := [], args := [] }

/-- 'bagatellelaw03.SolidBoxes': WHATEVER THE INPUT: true; the input reads as it did. -/
def solidBoxesSpec : ChangeSpec := { name := "solidBoxes", fn := fun _ => fun
  | [d1, d2, d3, d4, d5] => { results := [.lit (.bool true)], args := [d1, d2, d3, d4, d5] }
  | _ => none }
def solidBoxesRow : OpenClaim := { program := "ytdebekhncimenaa", sum := "ee952e20e3e86b5d20e099a681bd23255cb228bf940c06ce23d6c2b0b3b26294", func := "bagatelle/bagatellelaw03.SolidBoxes", spec := "solidBoxes", apart := false }
def SolidBoxesSaid : Prop := solidBoxesRow.holds Try.pinned (OpenSpec.ofChange solidBoxesSpec)

/-- ITS FALSE NEIGHBOUR: 'it returns false'. Refute it at one input. -/
def solidBoxesWrong : ChangeSpec := { name := "solidBoxes", fn := fun _ => fun
  | [d1, d2, d3, d4, d5] => { results := [.lit (.bool false)], args := [d1, d2, d3, d4, d5] }
  | _ => none }
def SolidBoxesWrongFalsely : Prop := solidBoxesRow.holds Try.pinned (OpenSpec.ofChange solidBoxesWrong)

/-- 'bagatellelaw03.SolidJoins': WHATEVER THE INPUT: true; the input reads as it did. -/
def solidJoinsSpec : ChangeSpec := { name := "solidJoins", fn := fun _ => fun
  | [d1, d2, d3, d4, d5] => { results := [.lit (.bool true)], args := [d1, d2, d3, d4, d5] }
  | _ => none }
def solidJoinsRow : OpenClaim := { program := "ytdebekhncimenaa", sum := "ee952e20e3e86b5d20e099a681bd23255cb228bf940c06ce23d6c2b0b3b26294", func := "bagatelle/bagatellelaw03.SolidJoins", spec := "solidJoins", apart := false }
def SolidJoinsSaid : Prop := solidJoinsRow.holds Try.pinned (OpenSpec.ofChange solidJoinsSpec)

/-- ITS FALSE NEIGHBOUR: 'it returns false'. Refute it at one input. -/
def solidJoinsWrong : ChangeSpec := { name := "solidJoins", fn := fun _ => fun
  | [d1, d2, d3, d4, d5] => { results := [.lit (.bool false)], args := [d1, d2, d3, d4, d5] }
  | _ => none }
def SolidJoinsWrongFalsely : Prop := solidJoinsRow.holds Try.pinned (OpenSpec.ofChange solidJoinsWrong)

/-- 'bagatellelaw03.SolidSpots': WHATEVER THE INPUT: true; the input reads as it did. -/
def solidSpotsSpec : ChangeSpec := { name := "solidSpots", fn := fun _ => fun
  | [d1, d2, d3, d4] => { results := [.lit (.bool true)], args := [d1, d2, d3, d4] }
  | _ => none }
def solidSpotsRow : OpenClaim := { program := "ytdebekhncimenaa", sum := "ee952e20e3e86b5d20e099a681bd23255cb228bf940c06ce23d6c2b0b3b26294", func := "bagatelle/bagatellelaw03.SolidSpots", spec := "solidSpots", unfollowed := true, recurses := true, apart := false }
def SolidSpotsSaid : Prop := solidSpotsRow.holds Try.pinned (OpenSpec.ofChange solidSpotsSpec)

/-- ITS FALSE NEIGHBOUR: 'it returns false'. Refute it at one input. -/
def solidSpotsWrong : ChangeSpec := { name := "solidSpots", fn := fun _ => fun
  | [d1, d2, d3, d4] => { results := [.lit (.bool false)], args := [d1, d2, d3, d4] }
  | _ => none }
def SolidSpotsWrongFalsely : Prop := solidSpotsRow.holds Try.pinned (OpenSpec.ofChange solidSpotsWrong)

/-- 'bagatellelaw03.SolidHolds': WHATEVER THE INPUT: true; the input reads as it did. -/
def solidHoldsSpec : ChangeSpec := { name := "solidHolds", fn := fun _ => fun
  | [d1, d2] => { results := [.lit (.bool true)], args := [d1, d2] }
  | _ => none }
def solidHoldsRow : OpenClaim := { program := "ytdebekhncimenaa", sum := "ee952e20e3e86b5d20e099a681bd23255cb228bf940c06ce23d6c2b0b3b26294", func := "bagatelle/bagatellelaw03.SolidHolds", spec := "solidHolds", unfollowed := true, recurses := true, apart := false }
def SolidHoldsSaid : Prop := solidHoldsRow.holds Try.pinned (OpenSpec.ofChange solidHoldsSpec)

/-- ITS FALSE NEIGHBOUR: 'it returns false'. Refute it at one input. -/
def solidHoldsWrong : ChangeSpec := { name := "solidHolds", fn := fun _ => fun
  | [d1, d2] => { results := [.lit (.bool false)], args := [d1, d2] }
  | _ => none }
def SolidHoldsWrongFalsely : Prop := solidHoldsRow.holds Try.pinned (OpenSpec.ofChange solidHoldsWrong)

/-- 'bagatellelaw03.SolidSeparates': WHATEVER THE INPUT: true; the input reads as it did. -/
def solidSeparatesSpec : ChangeSpec := { name := "solidSeparates", fn := fun _ => fun
  | [d1, d2] => { results := [.lit (.bool true)], args := [d1, d2] }
  | _ => none }
def solidSeparatesRow : OpenClaim := { program := "ytdebekhncimenaa", sum := "ee952e20e3e86b5d20e099a681bd23255cb228bf940c06ce23d6c2b0b3b26294", func := "bagatelle/bagatellelaw03.SolidSeparates", spec := "solidSeparates", inPlace := ["math/bits.Add64", "math/bits.Sub64"], unfollowed := true, recurses := true, apart := false }
def SolidSeparatesSaid : Prop := solidSeparatesRow.holds Try.pinned (OpenSpec.ofChange solidSeparatesSpec)

/-- ITS FALSE NEIGHBOUR: 'it returns false'. Refute it at one input. -/
def solidSeparatesWrong : ChangeSpec := { name := "solidSeparates", fn := fun _ => fun
  | [d1, d2] => { results := [.lit (.bool false)], args := [d1, d2] }
  | _ => none }
def SolidSeparatesWrongFalsely : Prop := solidSeparatesRow.holds Try.pinned (OpenSpec.ofChange solidSeparatesWrong)

/-- 'bagatellelaw03.SolidSides': WHATEVER THE INPUT: true; the input reads as it did. -/
def solidSidesSpec : ChangeSpec := { name := "solidSides", fn := fun _ => fun
  | [d1, d2, d3, d4] => { results := [.lit (.bool true)], args := [d1, d2, d3, d4] }
  | _ => none }
def solidSidesRow : OpenClaim := { program := "ytdebekhncimenaa", sum := "ee952e20e3e86b5d20e099a681bd23255cb228bf940c06ce23d6c2b0b3b26294", func := "bagatelle/bagatellelaw03.SolidSides", spec := "solidSides", inPlace := ["math/bits.Add64", "math/bits.Sub64"], unfollowed := true, recurses := true, apart := false }
def SolidSidesSaid : Prop := solidSidesRow.holds Try.pinned (OpenSpec.ofChange solidSidesSpec)

/-- ITS FALSE NEIGHBOUR: 'it returns false'. Refute it at one input. -/
def solidSidesWrong : ChangeSpec := { name := "solidSides", fn := fun _ => fun
  | [d1, d2, d3, d4] => { results := [.lit (.bool false)], args := [d1, d2, d3, d4] }
  | _ => none }
def SolidSidesWrongFalsely : Prop := solidSidesRow.holds Try.pinned (OpenSpec.ofChange solidSidesWrong)

/- THE SECOND FORM. 'bulk': how many values and letters a reading holds, each counted each time it is reached (what is shared counts as often as it is met; a slice's spare places count too). A statement '..UptoSaid' is the law's where the arguments, and the package variables that the reading takes, are together of bulk at most 1048576: NARROWER than '..Said'. Prove '..Said' where nothing that the law and all that it calls make is longer than what came in: it says more and counts as full. Else prove '..UptoSaid'. A law counts once. -/
mutual
def uptoBulk {H : Type} : DataW H → Nat
  | .lit (.string bytes) => bytes.length + 1
  | .lit _ => 1
  | .nil => 1
  | .ptr d => uptoBulk d + 1
  | .slice elems spare => uptoBulkAll elems + uptoBulkAll spare + 1
  | .agg parts => uptoBulkAll parts + 1
  | .iface _ d => uptoBulk d + 1
  | .map entries => uptoBulkEntries entries + 1
  | .held _ => 1
def uptoBulkAll {H : Type} : List (DataW H) → Nat
  | [] => 0
  | d :: r => uptoBulk d + uptoBulkAll r
def uptoBulkEntries {H : Type} : List (Lit × DataW H) → Nat
  | [] => 0
  | x :: r => uptoBulkEntry x + uptoBulkEntries r
def uptoBulkEntry {H : Type} : Lit × DataW H → Nat
  | (.string bytes, d) => bytes.length + uptoBulk d + 1
  | (_, d) => uptoBulk d + 1
 end
def uptoSmall : (H : Type) → List (DataW H) → Bool := fun _ ds => decide (uptoBulkAll ds ≤ 1048576)
def OpenSpec.upto (s : _root_.Go.ChangeSpec) : _root_.Go.OpenSpec := { _root_.Go.OpenSpec.ofChange s with cond := some uptoSmall }

/-- 'bagatellelaw03.SolidBoxes', WHERE WHAT IT READS IS OF BULK AT MOST 1048576: true; the input reads as it did. -/
def solidBoxesUptoRow : OpenClaim := { program := "ytdebekhncimenaa", sum := "ee952e20e3e86b5d20e099a681bd23255cb228bf940c06ce23d6c2b0b3b26294", func := "bagatelle/bagatellelaw03.SolidBoxes", spec := "solidBoxes", apart := false, narrowed := true }
def SolidBoxesUptoSaid : Prop := solidBoxesUptoRow.holds Try.pinned (OpenSpec.upto solidBoxesSpec)

/-- 'bagatellelaw03.SolidJoins', WHERE WHAT IT READS IS OF BULK AT MOST 1048576: true; the input reads as it did. -/
def solidJoinsUptoRow : OpenClaim := { program := "ytdebekhncimenaa", sum := "ee952e20e3e86b5d20e099a681bd23255cb228bf940c06ce23d6c2b0b3b26294", func := "bagatelle/bagatellelaw03.SolidJoins", spec := "solidJoins", apart := false, narrowed := true }
def SolidJoinsUptoSaid : Prop := solidJoinsUptoRow.holds Try.pinned (OpenSpec.upto solidJoinsSpec)

/-- 'bagatellelaw03.SolidSpots', WHERE WHAT IT READS IS OF BULK AT MOST 1048576: true; the input reads as it did. -/
def solidSpotsUptoRow : OpenClaim := { program := "ytdebekhncimenaa", sum := "ee952e20e3e86b5d20e099a681bd23255cb228bf940c06ce23d6c2b0b3b26294", func := "bagatelle/bagatellelaw03.SolidSpots", spec := "solidSpots", unfollowed := true, recurses := true, apart := false, narrowed := true }
def SolidSpotsUptoSaid : Prop := solidSpotsUptoRow.holds Try.pinned (OpenSpec.upto solidSpotsSpec)

/-- 'bagatellelaw03.SolidHolds', WHERE WHAT IT READS IS OF BULK AT MOST 1048576: true; the input reads as it did. -/
def solidHoldsUptoRow : OpenClaim := { program := "ytdebekhncimenaa", sum := "ee952e20e3e86b5d20e099a681bd23255cb228bf940c06ce23d6c2b0b3b26294", func := "bagatelle/bagatellelaw03.SolidHolds", spec := "solidHolds", unfollowed := true, recurses := true, apart := false, narrowed := true }
def SolidHoldsUptoSaid : Prop := solidHoldsUptoRow.holds Try.pinned (OpenSpec.upto solidHoldsSpec)

/-- 'bagatellelaw03.SolidSeparates', WHERE WHAT IT READS IS OF BULK AT MOST 1048576: true; the input reads as it did. -/
def solidSeparatesUptoRow : OpenClaim := { program := "ytdebekhncimenaa", sum := "ee952e20e3e86b5d20e099a681bd23255cb228bf940c06ce23d6c2b0b3b26294", func := "bagatelle/bagatellelaw03.SolidSeparates", spec := "solidSeparates", inPlace := ["math/bits.Add64", "math/bits.Sub64"], unfollowed := true, recurses := true, apart := false, narrowed := true }
def SolidSeparatesUptoSaid : Prop := solidSeparatesUptoRow.holds Try.pinned (OpenSpec.upto solidSeparatesSpec)

/-- 'bagatellelaw03.SolidSides', WHERE WHAT IT READS IS OF BULK AT MOST 1048576: true; the input reads as it did. -/
def solidSidesUptoRow : OpenClaim := { program := "ytdebekhncimenaa", sum := "ee952e20e3e86b5d20e099a681bd23255cb228bf940c06ce23d6c2b0b3b26294", func := "bagatelle/bagatellelaw03.SolidSides", spec := "solidSides", inPlace := ["math/bits.Add64", "math/bits.Sub64"], unfollowed := true, recurses := true, apart := false, narrowed := true }
def SolidSidesUptoSaid : Prop := solidSidesUptoRow.holds Try.pinned (OpenSpec.upto solidSidesSpec)

end Rows
end Go.Proofs.Ytdebekhncimenaa
