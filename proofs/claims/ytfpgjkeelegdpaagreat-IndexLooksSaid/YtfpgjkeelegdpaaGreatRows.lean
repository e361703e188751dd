/-
  No cell of these rows narrows 'for every input' (looked for: loops, veiled, ifaces, maps, wideKeys, modest, calm, conditions, laid).
  DERIVED. THE GIVEN ROWS OF THIS SEAT. 10 by the template 'for every input the law returns true; each argument reads behind the call as it read before'; 0 by the template 'total and deterministic' (their statements: YtfpgjkeelegdpaaGreatTotals.lean).
  GIVEN WITH THE SEED: the statements are not yours to turn. If you find one false, say at which input.
  Laid BY PROGRAM, IN A SANDBOX (cutbox-rows.mjs): the forced cells as the released guide's own fill.sh prints them over the translation e79684bdb849e3a5… (all of the seat's roots in one cut). By AI agents, Wed Nov 11 2026. No macro, syntax, notation, axiom, sorry.
-/
import Derived.Test.YtfpgjkeelegdpaaGreatChecked
import GoSem.Claim
import GoSem.ClaimJoined
import GoSem.ClaimMapViews
import Derived.JoinedTies
import Derived.KernelRfl
namespace Go.Proofs.YtfpgjkeelegdpaaGreat
/- THE CELL 'sum', in the pinned program and in every row, IS THE sha256 OF THE DUMP (.gsa) THAT YtfpgjkeelegdpaaGreatProg.lean LOADS. Nothing in Lean hashes anything: it is a label: what it is worth is what the hold of that sum in a sandbox is worth. -/
noncomputable def Tryz.pinned : Pinned := { name := "ytfpgjkeelegdpaagreat", sum := "e79684bdb849e3a512ecfe710eaa79d258d3dc797fd6e262b0486e4851f93905", checked := Tryz.checked }
namespace Rows
def none {H : Type} : Left H := { results := [], args := [] }

/-- 'bagatellelaw04.IndexMoves': WHATEVER THE INPUT: true; the input reads as it did. -/
def indexMovesSpec : ChangeSpec := { name := "indexMoves", fn := fun _ => fun
  | [d1, d2] => { results := [.lit (.bool true)], args := [d1, d2] }
  | _ => none }
def indexMovesRow : OpenClaim := { program := "ytfpgjkeelegdpaagreat", sum := "e79684bdb849e3a512ecfe710eaa79d258d3dc797fd6e262b0486e4851f93905", func := "bagatelle/bagatellelaw04.IndexMoves", spec := "indexMoves", unfollowed := true, recurses := true, apart := false }
def IndexMovesSaid : Prop := indexMovesRow.holds Tryz.pinned (OpenSpec.ofChange indexMovesSpec)

/-- ITS FALSE NEIGHBOUR: 'it returns false'. Refute it at one input. -/
def indexMovesWrong : ChangeSpec := { name := "indexMoves", fn := fun _ => fun
  | [d1, d2] => { results := [.lit (.bool false)], args := [d1, d2] }
  | _ => none }
def IndexMovesWrongFalsely : Prop := indexMovesRow.holds Tryz.pinned (OpenSpec.ofChange indexMovesWrong)

/-- 'bagatellelaw04.IndexAlong': WHATEVER THE INPUT: true; the input reads as it did. -/
def indexAlongSpec : ChangeSpec := { name := "indexAlong", fn := fun _ => fun
  | [d1, d2, d3, d4, d5] => { results := [.lit (.bool true)], args := [d1, d2, d3, d4, d5] }
  | _ => none }
def indexAlongRow : OpenClaim := { program := "ytfpgjkeelegdpaagreat", sum := "e79684bdb849e3a512ecfe710eaa79d258d3dc797fd6e262b0486e4851f93905", func := "bagatelle/bagatellelaw04.IndexAlong", spec := "indexAlong", unfollowed := true, recurses := true, apart := false }
def IndexAlongSaid : Prop := indexAlongRow.holds Tryz.pinned (OpenSpec.ofChange indexAlongSpec)

/-- ITS FALSE NEIGHBOUR: 'it returns false'. Refute it at one input. -/
def indexAlongWrong : ChangeSpec := { name := "indexAlong", fn := fun _ => fun
  | [d1, d2, d3, d4, d5] => { results := [.lit (.bool false)], args := [d1, d2, d3, d4, d5] }
  | _ => none }
def IndexAlongWrongFalsely : Prop := indexAlongRow.holds Tryz.pinned (OpenSpec.ofChange indexAlongWrong)

/-- 'bagatellelaw04.IndexSweeps': WHATEVER THE INPUT: true; the input reads as it did. -/
def indexSweepsSpec : ChangeSpec := { name := "indexSweeps", fn := fun _ => fun
  | [d] => { results := [.lit (.bool true)], args := [d] }
  | _ => none }
def indexSweepsRow : OpenClaim := { program := "ytfpgjkeelegdpaagreat", sum := "e79684bdb849e3a512ecfe710eaa79d258d3dc797fd6e262b0486e4851f93905", func := "bagatelle/bagatellelaw04.IndexSweeps", spec := "indexSweeps", inPlace := ["maps.clone"], unfollowed := true, recurses := true, apart := false }
def IndexSweepsSaid : Prop := indexSweepsRow.holds Tryz.pinned (OpenSpec.ofChange indexSweepsSpec)

/-- ITS FALSE NEIGHBOUR: 'it returns false'. Refute it at one input. -/
def indexSweepsWrong : ChangeSpec := { name := "indexSweeps", fn := fun _ => fun
  | [d] => { results := [.lit (.bool false)], args := [d] }
  | _ => none }
def IndexSweepsWrongFalsely : Prop := indexSweepsRow.holds Tryz.pinned (OpenSpec.ofChange indexSweepsWrong)

/-- 'bagatellelaw04.IndexLeast': WHATEVER THE INPUT: true; the input reads as it did. -/
def indexLeastSpec : ChangeSpec := { name := "indexLeast", fn := fun _ => fun
  | [d1, d2] => { results := [.lit (.bool true)], args := [d1, d2] }
  | _ => none }
def indexLeastRow : OpenClaim := { program := "ytfpgjkeelegdpaagreat", sum := "e79684bdb849e3a512ecfe710eaa79d258d3dc797fd6e262b0486e4851f93905", func := "bagatelle/bagatellelaw04.IndexLeast", spec := "indexLeast", unfollowed := true, recurses := true, apart := false }
def IndexLeastSaid : Prop := indexLeastRow.holds Tryz.pinned (OpenSpec.ofChange indexLeastSpec)

/-- ITS FALSE NEIGHBOUR: 'it returns false'. Refute it at one input. -/
def indexLeastWrong : ChangeSpec := { name := "indexLeast", fn := fun _ => fun
  | [d1, d2] => { results := [.lit (.bool false)], args := [d1, d2] }
  | _ => none }
def IndexLeastWrongFalsely : Prop := indexLeastRow.holds Tryz.pinned (OpenSpec.ofChange indexLeastWrong)

/-- 'bagatellelaw04.IndexCopies': WHATEVER THE INPUT: true; the input reads as it did. -/
def indexCopiesSpec : ChangeSpec := { name := "indexCopies", fn := fun _ => fun
  | [d1, d2, d3] => { results := [.lit (.bool true)], args := [d1, d2, d3] }
  | _ => none }
def indexCopiesRow : OpenClaim := { program := "ytfpgjkeelegdpaagreat", sum := "e79684bdb849e3a512ecfe710eaa79d258d3dc797fd6e262b0486e4851f93905", func := "bagatelle/bagatellelaw04.IndexCopies", spec := "indexCopies", unfollowed := true, recurses := true, apart := false }
def IndexCopiesSaid : Prop := indexCopiesRow.holds Tryz.pinned (OpenSpec.ofChange indexCopiesSpec)

/-- ITS FALSE NEIGHBOUR: 'it returns false'. Refute it at one input. -/
def indexCopiesWrong : ChangeSpec := { name := "indexCopies", fn := fun _ => fun
  | [d1, d2, d3] => { results := [.lit (.bool false)], args := [d1, d2, d3] }
  | _ => none }
def IndexCopiesWrongFalsely : Prop := indexCopiesRow.holds Tryz.pinned (OpenSpec.ofChange indexCopiesWrong)

/-- 'bagatellelaw04.IndexSlots': WHATEVER THE INPUT: true; the input reads as it did. -/
def indexSlotsSpec : ChangeSpec := { name := "indexSlots", fn := fun _ => fun
  | [d1, d2] => { results := [.lit (.bool true)], args := [d1, d2] }
  | _ => none }
def indexSlotsRow : OpenClaim := { program := "ytfpgjkeelegdpaagreat", sum := "e79684bdb849e3a512ecfe710eaa79d258d3dc797fd6e262b0486e4851f93905", func := "bagatelle/bagatellelaw04.IndexSlots", spec := "indexSlots", unfollowed := true, recurses := true, apart := false }
def IndexSlotsSaid : Prop := indexSlotsRow.holds Tryz.pinned (OpenSpec.ofChange indexSlotsSpec)

/-- ITS FALSE NEIGHBOUR: 'it returns false'. Refute it at one input. -/
def indexSlotsWrong : ChangeSpec := { name := "indexSlots", fn := fun _ => fun
  | [d1, d2] => { results := [.lit (.bool false)], args := [d1, d2] }
  | _ => none }
def IndexSlotsWrongFalsely : Prop := indexSlotsRow.holds Tryz.pinned (OpenSpec.ofChange indexSlotsWrong)

/-- 'bagatellelaw04.IndexLooks': WHATEVER THE INPUT: true; the input reads as it did. -/
def indexLooksSpec : ChangeSpec := { name := "indexLooks", fn := fun _ => fun
  | [d1, d2, d3, d4] => { results := [.lit (.bool true)], args := [d1, d2, d3, d4] }
  | _ => none }
def indexLooksRow : OpenClaim := { program := "ytfpgjkeelegdpaagreat", sum := "e79684bdb849e3a512ecfe710eaa79d258d3dc797fd6e262b0486e4851f93905", func := "bagatelle/bagatellelaw04.IndexLooks", spec := "indexLooks", unfollowed := true, recurses := true, apart := false }
def IndexLooksSaid : Prop := indexLooksRow.holds Tryz.pinned (OpenSpec.ofChange indexLooksSpec)

/-- ITS FALSE NEIGHBOUR: 'it returns false'. Refute it at one input. -/
def indexLooksWrong : ChangeSpec := { name := "indexLooks", fn := fun _ => fun
  | [d1, d2, d3, d4] => { results := [.lit (.bool false)], args := [d1, d2, d3, d4] }
  | _ => none }
def IndexLooksWrongFalsely : Prop := indexLooksRow.holds Tryz.pinned (OpenSpec.ofChange indexLooksWrong)

/-- 'bagatellelaw04.IndexRestores': WHATEVER THE INPUT: true; the input reads as it did. -/
def indexRestoresSpec : ChangeSpec := { name := "indexRestores", fn := fun _ => fun
  | [d1, d2, d3] => { results := [.lit (.bool true)], args := [d1, d2, d3] }
  | _ => none }
def indexRestoresRow : OpenClaim := { program := "ytfpgjkeelegdpaagreat", sum := "e79684bdb849e3a512ecfe710eaa79d258d3dc797fd6e262b0486e4851f93905", func := "bagatelle/bagatellelaw04.IndexRestores", spec := "indexRestores", unfollowed := true, recurses := true, apart := false }
def IndexRestoresSaid : Prop := indexRestoresRow.holds Tryz.pinned (OpenSpec.ofChange indexRestoresSpec)

/-- ITS FALSE NEIGHBOUR: 'it returns false'. Refute it at one input. -/
def indexRestoresWrong : ChangeSpec := { name := "indexRestores", fn := fun _ => fun
  | [d1, d2, d3] => { results := [.lit (.bool false)], args := [d1, d2, d3] }
  | _ => none }
def IndexRestoresWrongFalsely : Prop := indexRestoresRow.holds Tryz.pinned (OpenSpec.ofChange indexRestoresWrong)

/-- 'bagatellelaw04.IndexKnown': WHATEVER THE INPUT: true; the input reads as it did. -/
def indexKnownSpec : ChangeSpec := { name := "indexKnown", fn := fun _ => fun
  | [] => { results := [.lit (.bool true)], args := [] }
  | _ => none }
def indexKnownRow : OpenClaim := { program := "ytfpgjkeelegdpaagreat", sum := "e79684bdb849e3a512ecfe710eaa79d258d3dc797fd6e262b0486e4851f93905", func := "bagatelle/bagatellelaw04.IndexKnown", spec := "indexKnown", unfollowed := true, recurses := true, apart := false }
def IndexKnownSaid : Prop := indexKnownRow.holds Tryz.pinned (OpenSpec.ofChange indexKnownSpec)

/-- ITS FALSE NEIGHBOUR: 'it returns false'. Refute it at one input. -/
def indexKnownWrong : ChangeSpec := { name := "indexKnown", fn := fun _ => fun
  | [] => { results := [.lit (.bool false)], args := [] }
  | _ => none }
def IndexKnownWrongFalsely : Prop := indexKnownRow.holds Tryz.pinned (OpenSpec.ofChange indexKnownWrong)

/-- 'bagatellelaw04.IndexNone': WHATEVER THE INPUT: true; the input reads as it did. -/
def indexNoneSpec : ChangeSpec := { name := "indexNone", fn := fun _ => fun
  | [d1, d2, d3, d4, d5] => { results := [.lit (.bool true)], args := [d1, d2, d3, d4, d5] }
  | _ => none }
def indexNoneRow : OpenClaim := { program := "ytfpgjkeelegdpaagreat", sum := "e79684bdb849e3a512ecfe710eaa79d258d3dc797fd6e262b0486e4851f93905", func := "bagatelle/bagatellelaw04.IndexNone", spec := "indexNone", inPlace := ["maps.clone"], unfollowed := true, recurses := true, apart := false }
def IndexNoneSaid : Prop := indexNoneRow.holds Tryz.pinned (OpenSpec.ofChange indexNoneSpec)

/-- ITS FALSE NEIGHBOUR: 'it returns false'. Refute it at one input. -/
def indexNoneWrong : ChangeSpec := { name := "indexNone", fn := fun _ => fun
  | [d1, d2, d3, d4, d5] => { results := [.lit (.bool false)], args := [d1, d2, d3, d4, d5] }
  | _ => none }
def IndexNoneWrongFalsely : Prop := indexNoneRow.holds Tryz.pinned (OpenSpec.ofChange indexNoneWrong)

/- THE SECOND FORM. 'bulk': how many values and letters a reading holds, each counted each time it is reached (what is shared counts as often as it is met; a slice's spare places count too). A statement '..UptoSaid' is the law's where the arguments, and the package variables that the reading takes, are together of bulk at most 1048576: NARROWER than '..Said'. Prove '..Said' where nothing that the law and all that it calls make is longer than what came in: it says more and counts as full. Else prove '..UptoSaid'. A law counts once. -/
mutual
def uptoBulk {H : Type} : DataW H → Nat
  | .lit (.string bytes) => bytes.length + 1
  | .lit _ => 1
  | .nil => 1
  | .ptr d => uptoBulk d + 1
  | .slice elems spare => uptoBulkAll elems + uptoBulkAll spare + 1
  | .agg parts => uptoBulkAll parts + 1
  | .iface _ d => uptoBulk d + 1
  | .map entries => uptoBulkEntries entries + 1
  | .held _ => 1
def uptoBulkAll {H : Type} : List (DataW H) → Nat
  | [] => 0
  | d :: r => uptoBulk d + uptoBulkAll r
def uptoBulkEntries {H : Type} : List (Lit × DataW H) → Nat
  | [] => 0
  | x :: r => uptoBulkEntry x + uptoBulkEntries r
def uptoBulkEntry {H : Type} : Lit × DataW H → Nat
  | (.string bytes, d) => bytes.length + uptoBulk d + 1
  | (_, d) => uptoBulk d + 1
 end
def uptoSmall : (H : Type) → List (DataW H) → Bool := fun _ ds => decide (uptoBulkAll ds ≤ 1048576)
def OpenSpec.upto (s : _root_.Go.ChangeSpec) : _root_.Go.OpenSpec := { _root_.Go.OpenSpec.ofChange s with cond := some uptoSmall }

/-- 'bagatellelaw04.IndexMoves', WHERE WHAT IT READS IS OF BULK AT MOST 1048576: true; the input reads as it did. -/
def indexMovesUptoRow : OpenClaim := { program := "ytfpgjkeelegdpaagreat", sum := "e79684bdb849e3a512ecfe710eaa79d258d3dc797fd6e262b0486e4851f93905", func := "bagatelle/bagatellelaw04.IndexMoves", spec := "indexMoves", unfollowed := true, recurses := true, apart := false, narrowed := true }
def IndexMovesUptoSaid : Prop := indexMovesUptoRow.holds Tryz.pinned (OpenSpec.upto indexMovesSpec)

/-- 'bagatellelaw04.IndexAlong', WHERE WHAT IT READS IS OF BULK AT MOST 1048576: true; the input reads as it did. -/
def indexAlongUptoRow : OpenClaim := { program := "ytfpgjkeelegdpaagreat", sum := "e79684bdb849e3a512ecfe710eaa79d258d3dc797fd6e262b0486e4851f93905", func := "bagatelle/bagatellelaw04.IndexAlong", spec := "indexAlong", unfollowed := true, recurses := true, apart := false, narrowed := true }
def IndexAlongUptoSaid : Prop := indexAlongUptoRow.holds Tryz.pinned (OpenSpec.upto indexAlongSpec)

/-- 'bagatellelaw04.IndexSweeps', WHERE WHAT IT READS IS OF BULK AT MOST 1048576: true; the input reads as it did. -/
def indexSweepsUptoRow : OpenClaim := { program := "ytfpgjkeelegdpaagreat", sum := "e79684bdb849e3a512ecfe710eaa79d258d3dc797fd6e262b0486e4851f93905", func := "bagatelle/bagatellelaw04.IndexSweeps", spec := "indexSweeps", inPlace := ["maps.clone"], unfollowed := true, recurses := true, apart := false, narrowed := true }
def IndexSweepsUptoSaid : Prop := indexSweepsUptoRow.holds Tryz.pinned (OpenSpec.upto indexSweepsSpec)

/-- 'bagatellelaw04.IndexLeast', WHERE WHAT IT READS IS OF BULK AT MOST 1048576: true; the input reads as it did. -/
def indexLeastUptoRow : OpenClaim := { program := "ytfpgjkeelegdpaagreat", sum := "e79684bdb849e3a512ecfe710eaa79d258d3dc797fd6e262b0486e4851f93905", func := "bagatelle/bagatellelaw04.IndexLeast", spec := "indexLeast", unfollowed := true, recurses := true, apart := false, narrowed := true }
def IndexLeastUptoSaid : Prop := indexLeastUptoRow.holds Tryz.pinned (OpenSpec.upto indexLeastSpec)

/-- 'bagatellelaw04.IndexCopies', WHERE WHAT IT READS IS OF BULK AT MOST 1048576: true; the input reads as it did. -/
def indexCopiesUptoRow : OpenClaim := { program := "ytfpgjkeelegdpaagreat", sum := "e79684bdb849e3a512ecfe710eaa79d258d3dc797fd6e262b0486e4851f93905", func := "bagatelle/bagatellelaw04.IndexCopies", spec := "indexCopies", unfollowed := true, recurses := true, apart := false, narrowed := true }
def IndexCopiesUptoSaid : Prop := indexCopiesUptoRow.holds Tryz.pinned (OpenSpec.upto indexCopiesSpec)

/-- 'bagatellelaw04.IndexSlots', WHERE WHAT IT READS IS OF BULK AT MOST 1048576: true; the input reads as it did. -/
def indexSlotsUptoRow : OpenClaim := { program := "ytfpgjkeelegdpaagreat", sum := "e79684bdb849e3a512ecfe710eaa79d258d3dc797fd6e262b0486e4851f93905", func := "bagatelle/bagatellelaw04.IndexSlots", spec := "indexSlots", unfollowed := true, recurses := true, apart := false, narrowed := true }
def IndexSlotsUptoSaid : Prop := indexSlotsUptoRow.holds Tryz.pinned (OpenSpec.upto indexSlotsSpec)

/-- 'bagatellelaw04.IndexLooks', WHERE WHAT IT READS IS OF BULK AT MOST 1048576: true; the input reads as it did. -/
def indexLooksUptoRow : OpenClaim := { program := "ytfpgjkeelegdpaagreat", sum := "e79684bdb849e3a512ecfe710eaa79d258d3dc797fd6e262b0486e4851f93905", func := "bagatelle/bagatellelaw04.IndexLooks", spec := "indexLooks", unfollowed := true, recurses := true, apart := false, narrowed := true }
def IndexLooksUptoSaid : Prop := indexLooksUptoRow.holds Tryz.pinned (OpenSpec.upto indexLooksSpec)

/-- 'bagatellelaw04.IndexRestores', WHERE WHAT IT READS IS OF BULK AT MOST 1048576: true; the input reads as it did. -/
def indexRestoresUptoRow : OpenClaim := { program := "ytfpgjkeelegdpaagreat", sum := "e79684bdb849e3a512ecfe710eaa79d258d3dc797fd6e262b0486e4851f93905", func := "bagatelle/bagatellelaw04.IndexRestores", spec := "indexRestores", unfollowed := true, recurses := true, apart := false, narrowed := true }
def IndexRestoresUptoSaid : Prop := indexRestoresUptoRow.holds Tryz.pinned (OpenSpec.upto indexRestoresSpec)

/-- 'bagatellelaw04.IndexKnown', WHERE WHAT IT READS IS OF BULK AT MOST 1048576: true; the input reads as it did. -/
def indexKnownUptoRow : OpenClaim := { program := "ytfpgjkeelegdpaagreat", sum := "e79684bdb849e3a512ecfe710eaa79d258d3dc797fd6e262b0486e4851f93905", func := "bagatelle/bagatellelaw04.IndexKnown", spec := "indexKnown", unfollowed := true, recurses := true, apart := false, narrowed := true }
def IndexKnownUptoSaid : Prop := indexKnownUptoRow.holds Tryz.pinned (OpenSpec.upto indexKnownSpec)

/-- 'bagatellelaw04.IndexNone', WHERE WHAT IT READS IS OF BULK AT MOST 1048576: true; the input reads as it did. -/
def indexNoneUptoRow : OpenClaim := { program := "ytfpgjkeelegdpaagreat", sum := "e79684bdb849e3a512ecfe710eaa79d258d3dc797fd6e262b0486e4851f93905", func := "bagatelle/bagatellelaw04.IndexNone", spec := "indexNone", inPlace := ["maps.clone"], unfollowed := true, recurses := true, apart := false, narrowed := true }
def IndexNoneUptoSaid : Prop := indexNoneUptoRow.holds Tryz.pinned (OpenSpec.upto indexNoneSpec)

end Rows
end Go.Proofs.YtfpgjkeelegdpaaGreat
