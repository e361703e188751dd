/-
  No cell of these rows narrows 'for every input' (looked for: loops, veiled, ifaces, maps, wideKeys, modest, calm, conditions, laid).
  DERIVED. THE GIVEN ROWS OF THIS SEAT. 5 by the template 'for every input the law returns true; each argument reads behind the call as it read before'; 0 by the template 'total and deterministic' (their statements: YtfpgjkeelegdpaaTotals.lean).
  GIVEN WITH THE SEED: the statements are not yours to turn. If you find one false, say at which input.
  Laid BY PROGRAM, IN A SANDBOX (cutbox-rows.mjs): the forced cells as the released guide's own fill.sh prints them over the translation d302642340cfcea6… (all of the seat's roots in one cut). By AI agents, Wed Nov 11 2026. No macro, syntax, notation, axiom, sorry.
-/
import Derived.Test.YtfpgjkeelegdpaaChecked
import GoSem.Claim
import GoSem.ClaimJoined
import GoSem.ClaimMapViews
import Derived.JoinedTies
import Derived.KernelRfl
namespace Go.Proofs.Ytfpgjkeelegdpaa
/- THE CELL 'sum', in the pinned program and in every row, IS THE sha256 OF THE DUMP (.gsa) THAT YtfpgjkeelegdpaaProg.lean LOADS. Nothing in Lean hashes anything: it is a label: what it is worth is what the hold of that sum in a sandbox is worth. -/
noncomputable def Try.pinned : Pinned := { name := "ytfpgjkeelegdpaa", sum := "d302642340cfcea6544d704a4b82e1fd388a5ded11e6326a8d47c484b25c51d4", checked := Try.checked }
namespace Rows
def none {H : Type} : Left H := { results := [], args := [] }

/-- 'bagatellelaw04.IndexPairs': WHATEVER THE INPUT: true; the input reads as it did. -/
def indexPairsSpec : ChangeSpec := { name := "indexPairs", fn := fun _ => fun
  | [d] => { results := [.lit (.bool true)], args := [d] }
  | _ => none }
def indexPairsRow : OpenClaim := { program := "ytfpgjkeelegdpaa", sum := "d302642340cfcea6544d704a4b82e1fd388a5ded11e6326a8d47c484b25c51d4", func := "bagatelle/bagatellelaw04.IndexPairs", spec := "indexPairs", unfollowed := true, recurses := true, apart := false }
def IndexPairsSaid : Prop := indexPairsRow.holds Try.pinned (OpenSpec.ofChange indexPairsSpec)

/-- ITS FALSE NEIGHBOUR: 'it returns false'. Refute it at one input. -/
def indexPairsWrong : ChangeSpec := { name := "indexPairs", fn := fun _ => fun
  | [d] => { results := [.lit (.bool false)], args := [d] }
  | _ => none }
def IndexPairsWrongFalsely : Prop := indexPairsRow.holds Try.pinned (OpenSpec.ofChange indexPairsWrong)

/-- 'bagatellelaw04.IndexNears': WHATEVER THE INPUT: true; the input reads as it did. -/
def indexNearsSpec : ChangeSpec := { name := "indexNears", fn := fun _ => fun
  | [d1, d2, d3, d4, d5, d6] => { results := [.lit (.bool true)], args := [d1, d2, d3, d4, d5, d6] }
  | _ => none }
def indexNearsRow : OpenClaim := { program := "ytfpgjkeelegdpaa", sum := "d302642340cfcea6544d704a4b82e1fd388a5ded11e6326a8d47c484b25c51d4", func := "bagatelle/bagatellelaw04.IndexNears", spec := "indexNears", unfollowed := true, recurses := true, apart := false }
def IndexNearsSaid : Prop := indexNearsRow.holds Try.pinned (OpenSpec.ofChange indexNearsSpec)

/-- ITS FALSE NEIGHBOUR: 'it returns false'. Refute it at one input. -/
def indexNearsWrong : ChangeSpec := { name := "indexNears", fn := fun _ => fun
  | [d1, d2, d3, d4, d5, d6] => { results := [.lit (.bool false)], args := [d1, d2, d3, d4, d5, d6] }
  | _ => none }
def IndexNearsWrongFalsely : Prop := indexNearsRow.holds Try.pinned (OpenSpec.ofChange indexNearsWrong)

/-- 'bagatellelaw04.IndexFull': WHATEVER THE INPUT: true; the input reads as it did. -/
def indexFullSpec : ChangeSpec := { name := "indexFull", fn := fun _ => fun
  | [d] => { results := [.lit (.bool true)], args := [d] }
  | _ => none }
def indexFullRow : OpenClaim := { program := "ytfpgjkeelegdpaa", sum := "d302642340cfcea6544d704a4b82e1fd388a5ded11e6326a8d47c484b25c51d4", func := "bagatelle/bagatellelaw04.IndexFull", spec := "indexFull", unfollowed := true, recurses := true, apart := false }
def IndexFullSaid : Prop := indexFullRow.holds Try.pinned (OpenSpec.ofChange indexFullSpec)

/-- ITS FALSE NEIGHBOUR: 'it returns false'. Refute it at one input. -/
def indexFullWrong : ChangeSpec := { name := "indexFull", fn := fun _ => fun
  | [d] => { results := [.lit (.bool false)], args := [d] }
  | _ => none }
def IndexFullWrongFalsely : Prop := indexFullRow.holds Try.pinned (OpenSpec.ofChange indexFullWrong)

/-- 'bagatellelaw04.IndexWorn': WHATEVER THE INPUT: true; the input reads as it did. -/
def indexWornSpec : ChangeSpec := { name := "indexWorn", fn := fun _ => fun
  | [d] => { results := [.lit (.bool true)], args := [d] }
  | _ => none }
def indexWornRow : OpenClaim := { program := "ytfpgjkeelegdpaa", sum := "d302642340cfcea6544d704a4b82e1fd388a5ded11e6326a8d47c484b25c51d4", func := "bagatelle/bagatellelaw04.IndexWorn", spec := "indexWorn", unfollowed := true, recurses := true, apart := false }
def IndexWornSaid : Prop := indexWornRow.holds Try.pinned (OpenSpec.ofChange indexWornSpec)

/-- ITS FALSE NEIGHBOUR: 'it returns false'. Refute it at one input. -/
def indexWornWrong : ChangeSpec := { name := "indexWorn", fn := fun _ => fun
  | [d] => { results := [.lit (.bool false)], args := [d] }
  | _ => none }
def IndexWornWrongFalsely : Prop := indexWornRow.holds Try.pinned (OpenSpec.ofChange indexWornWrong)

/-- 'bagatellelaw04.IndexHandles': WHATEVER THE INPUT: true; the input reads as it did. -/
def indexHandlesSpec : ChangeSpec := { name := "indexHandles", fn := fun _ => fun
  | [d1, d2] => { results := [.lit (.bool true)], args := [d1, d2] }
  | _ => none }
def indexHandlesRow : OpenClaim := { program := "ytfpgjkeelegdpaa", sum := "d302642340cfcea6544d704a4b82e1fd388a5ded11e6326a8d47c484b25c51d4", func := "bagatelle/bagatellelaw04.IndexHandles", spec := "indexHandles", unfollowed := true, recurses := true, apart := false }
def IndexHandlesSaid : Prop := indexHandlesRow.holds Try.pinned (OpenSpec.ofChange indexHandlesSpec)

/-- ITS FALSE NEIGHBOUR: 'it returns false'. Refute it at one input. -/
def indexHandlesWrong : ChangeSpec := { name := "indexHandles", fn := fun _ => fun
  | [d1, d2] => { results := [.lit (.bool false)], args := [d1, d2] }
  | _ => none }
def IndexHandlesWrongFalsely : Prop := indexHandlesRow.holds Try.pinned (OpenSpec.ofChange indexHandlesWrong)

/- THE SECOND FORM. 'bulk': how many values and letters a reading holds, each counted each time it is reached (what is shared counts as often as it is met; a slice's spare places count too). A statement '..UptoSaid' is the law's where the arguments, and the package variables that the reading takes, are together of bulk at most 1048576: NARROWER than '..Said'. Prove '..Said' where nothing that the law and all that it calls make is longer than what came in: it says more and counts as full. Else prove '..UptoSaid'. A law counts once. -/
mutual
def uptoBulk {H : Type} : DataW H → Nat
  | .lit (.string bytes) => bytes.length + 1
  | .lit _ => 1
  | .nil => 1
  | .ptr d => uptoBulk d + 1
  | .slice elems spare => uptoBulkAll elems + uptoBulkAll spare + 1
  | .agg parts => uptoBulkAll parts + 1
  | .iface _ d => uptoBulk d + 1
  | .map entries => uptoBulkEntries entries + 1
  | .held _ => 1
def uptoBulkAll {H : Type} : List (DataW H) → Nat
  | [] => 0
  | d :: r => uptoBulk d + uptoBulkAll r
def uptoBulkEntries {H : Type} : List (Lit × DataW H) → Nat
  | [] => 0
  | x :: r => uptoBulkEntry x + uptoBulkEntries r
def uptoBulkEntry {H : Type} : Lit × DataW H → Nat
  | (.string bytes, d) => bytes.length + uptoBulk d + 1
  | (_, d) => uptoBulk d + 1
 end
def uptoSmall : (H : Type) → List (DataW H) → Bool := fun _ ds => decide (uptoBulkAll ds ≤ 1048576)
def OpenSpec.upto (s : _root_.Go.ChangeSpec) : _root_.Go.OpenSpec := { _root_.Go.OpenSpec.ofChange s with cond := some uptoSmall }

/-- 'bagatellelaw04.IndexPairs', WHERE WHAT IT READS IS OF BULK AT MOST 1048576: true; the input reads as it did. -/
def indexPairsUptoRow : OpenClaim := { program := "ytfpgjkeelegdpaa", sum := "d302642340cfcea6544d704a4b82e1fd388a5ded11e6326a8d47c484b25c51d4", func := "bagatelle/bagatellelaw04.IndexPairs", spec := "indexPairs", unfollowed := true, recurses := true, apart := false, narrowed := true }
def IndexPairsUptoSaid : Prop := indexPairsUptoRow.holds Try.pinned (OpenSpec.upto indexPairsSpec)

/-- 'bagatellelaw04.IndexNears', WHERE WHAT IT READS IS OF BULK AT MOST 1048576: true; the input reads as it did. -/
def indexNearsUptoRow : OpenClaim := { program := "ytfpgjkeelegdpaa", sum := "d302642340cfcea6544d704a4b82e1fd388a5ded11e6326a8d47c484b25c51d4", func := "bagatelle/bagatellelaw04.IndexNears", spec := "indexNears", unfollowed := true, recurses := true, apart := false, narrowed := true }
def IndexNearsUptoSaid : Prop := indexNearsUptoRow.holds Try.pinned (OpenSpec.upto indexNearsSpec)

/-- 'bagatellelaw04.IndexFull', WHERE WHAT IT READS IS OF BULK AT MOST 1048576: true; the input reads as it did. -/
def indexFullUptoRow : OpenClaim := { program := "ytfpgjkeelegdpaa", sum := "d302642340cfcea6544d704a4b82e1fd388a5ded11e6326a8d47c484b25c51d4", func := "bagatelle/bagatellelaw04.IndexFull", spec := "indexFull", unfollowed := true, recurses := true, apart := false, narrowed := true }
def IndexFullUptoSaid : Prop := indexFullUptoRow.holds Try.pinned (OpenSpec.upto indexFullSpec)

/-- 'bagatellelaw04.IndexWorn', WHERE WHAT IT READS IS OF BULK AT MOST 1048576: true; the input reads as it did. -/
def indexWornUptoRow : OpenClaim := { program := "ytfpgjkeelegdpaa", sum := "d302642340cfcea6544d704a4b82e1fd388a5ded11e6326a8d47c484b25c51d4", func := "bagatelle/bagatellelaw04.IndexWorn", spec := "indexWorn", unfollowed := true, recurses := true, apart := false, narrowed := true }
def IndexWornUptoSaid : Prop := indexWornUptoRow.holds Try.pinned (OpenSpec.upto indexWornSpec)

/-- 'bagatellelaw04.IndexHandles', WHERE WHAT IT READS IS OF BULK AT MOST 1048576: true; the input reads as it did. -/
def indexHandlesUptoRow : OpenClaim := { program := "ytfpgjkeelegdpaa", sum := "d302642340cfcea6544d704a4b82e1fd388a5ded11e6326a8d47c484b25c51d4", func := "bagatelle/bagatellelaw04.IndexHandles", spec := "indexHandles", unfollowed := true, recurses := true, apart := false, narrowed := true }
def IndexHandlesUptoSaid : Prop := indexHandlesUptoRow.holds Try.pinned (OpenSpec.upto indexHandlesSpec)

end Rows
end Go.Proofs.Ytfpgjkeelegdpaa
