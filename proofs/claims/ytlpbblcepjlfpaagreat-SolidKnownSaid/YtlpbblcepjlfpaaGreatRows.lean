/-
  No cell of these rows narrows 'for every input' (looked for: loops, veiled, ifaces, maps, wideKeys, modest, calm, conditions, laid).
  DERIVED. THE GIVEN ROWS OF THIS SEAT. 4 by the template 'for every input the law returns true; each argument reads behind the call as it read before'; 0 by the template 'total and deterministic' (their statements: YtlpbblcepjlfpaaGreatTotals.lean).
  GIVEN WITH THE SEED: the statements are not yours to turn. If you find one false, say at which input.
  Laid BY PROGRAM, IN A SANDBOX (cutbox-rows.mjs): the forced cells as the released guide's own fill.sh prints them over the translation 5eafe48616e72fa3… (all of the seat's roots in one cut). By AI agents, Wed Nov 11 2026. No macro, syntax, notation, axiom, sorry.
-/
import Derived.Test.YtlpbblcepjlfpaaGreatChecked
import GoSem.Claim
import GoSem.ClaimJoined
import GoSem.ClaimMapViews
import Derived.JoinedTies
import Derived.KernelRfl
namespace Go.Proofs.YtlpbblcepjlfpaaGreat
/- THE CELL 'sum', in the pinned program and in every row, IS THE sha256 OF THE DUMP (.gsa) THAT YtlpbblcepjlfpaaGreatProg.lean LOADS. Nothing in Lean hashes anything: it is a label: what it is worth is what the hold of that sum in a sandbox is worth. -/
noncomputable def Tryz.pinned : Pinned := { name := "ytlpbblcepjlfpaagreat", sum := "5eafe48616e72fa3316ae035dbf2e7f32724e75b62b18f7162ae5c7391e7d649", checked := Tryz.checked }
namespace Rows
def none {H : Type} : Left H := { results := [], args := [] }

/-- 'bagatellelaw03.SolidPlaced': WHATEVER THE INPUT: true; the input reads as it did. -/
def solidPlacedSpec : ChangeSpec := { name := "solidPlaced", fn := fun _ => fun
  | [d] => { results := [.lit (.bool true)], args := [d] }
  | _ => none }
def solidPlacedRow : OpenClaim := { program := "ytlpbblcepjlfpaagreat", sum := "5eafe48616e72fa3316ae035dbf2e7f32724e75b62b18f7162ae5c7391e7d649", func := "bagatelle/bagatellelaw03.SolidPlaced", spec := "solidPlaced", inPlace := ["math/bits.Add64", "math/bits.Sub64"], unfollowed := true, recurses := true, named := ["math/bits.divideError", "math/bits.overflowError"], apart := false }
def SolidPlacedSaid : Prop := solidPlacedRow.holds Tryz.pinned (OpenSpec.ofChange solidPlacedSpec)

/-- ITS FALSE NEIGHBOUR: 'it returns false'. Refute it at one input. -/
def solidPlacedWrong : ChangeSpec := { name := "solidPlaced", fn := fun _ => fun
  | [d] => { results := [.lit (.bool false)], args := [d] }
  | _ => none }
def SolidPlacedWrongFalsely : Prop := solidPlacedRow.holds Tryz.pinned (OpenSpec.ofChange solidPlacedWrong)

/-- 'bagatellelaw03.SolidClips': WHATEVER THE INPUT: true; the input reads as it did. -/
def solidClipsSpec : ChangeSpec := { name := "solidClips", fn := fun _ => fun
  | [d1, d2] => { results := [.lit (.bool true)], args := [d1, d2] }
  | _ => none }
def solidClipsRow : OpenClaim := { program := "ytlpbblcepjlfpaagreat", sum := "5eafe48616e72fa3316ae035dbf2e7f32724e75b62b18f7162ae5c7391e7d649", func := "bagatelle/bagatellelaw03.SolidClips", spec := "solidClips", inPlace := ["math/bits.Add64", "math/bits.Sub64"], unfollowed := true, recurses := true, named := ["math/bits.divideError", "math/bits.overflowError"], apart := false }
def SolidClipsSaid : Prop := solidClipsRow.holds Tryz.pinned (OpenSpec.ofChange solidClipsSpec)

/-- ITS FALSE NEIGHBOUR: 'it returns false'. Refute it at one input. -/
def solidClipsWrong : ChangeSpec := { name := "solidClips", fn := fun _ => fun
  | [d1, d2] => { results := [.lit (.bool false)], args := [d1, d2] }
  | _ => none }
def SolidClipsWrongFalsely : Prop := solidClipsRow.holds Tryz.pinned (OpenSpec.ofChange solidClipsWrong)

/-- 'bagatellelaw03.SolidTouches': WHATEVER THE INPUT: true; the input reads as it did. -/
def solidTouchesSpec : ChangeSpec := { name := "solidTouches", fn := fun _ => fun
  | [d1, d2] => { results := [.lit (.bool true)], args := [d1, d2] }
  | _ => none }
def solidTouchesRow : OpenClaim := { program := "ytlpbblcepjlfpaagreat", sum := "5eafe48616e72fa3316ae035dbf2e7f32724e75b62b18f7162ae5c7391e7d649", func := "bagatelle/bagatellelaw03.SolidTouches", spec := "solidTouches", inPlace := ["math/bits.Add64", "math/bits.Sub64"], unfollowed := true, recurses := true, named := ["math/bits.divideError", "math/bits.overflowError"], apart := false }
def SolidTouchesSaid : Prop := solidTouchesRow.holds Tryz.pinned (OpenSpec.ofChange solidTouchesSpec)

/-- ITS FALSE NEIGHBOUR: 'it returns false'. Refute it at one input. -/
def solidTouchesWrong : ChangeSpec := { name := "solidTouches", fn := fun _ => fun
  | [d1, d2] => { results := [.lit (.bool false)], args := [d1, d2] }
  | _ => none }
def SolidTouchesWrongFalsely : Prop := solidTouchesRow.holds Tryz.pinned (OpenSpec.ofChange solidTouchesWrong)

/-- 'bagatellelaw03.SolidKnown': WHATEVER THE INPUT: true; the input reads as it did. -/
def solidKnownSpec : ChangeSpec := { name := "solidKnown", fn := fun _ => fun
  | [] => { results := [.lit (.bool true)], args := [] }
  | _ => none }
def solidKnownRow : OpenClaim := { program := "ytlpbblcepjlfpaagreat", sum := "5eafe48616e72fa3316ae035dbf2e7f32724e75b62b18f7162ae5c7391e7d649", func := "bagatelle/bagatellelaw03.SolidKnown", spec := "solidKnown", inPlace := ["math/bits.Add64", "math/bits.Sub64"], unfollowed := true, recurses := true, named := ["math/bits.divideError", "math/bits.overflowError"], apart := false }
def SolidKnownSaid : Prop := solidKnownRow.holds Tryz.pinned (OpenSpec.ofChange solidKnownSpec)

/-- ITS FALSE NEIGHBOUR: 'it returns false'. Refute it at one input. -/
def solidKnownWrong : ChangeSpec := { name := "solidKnown", fn := fun _ => fun
  | [] => { results := [.lit (.bool false)], args := [] }
  | _ => none }
def SolidKnownWrongFalsely : Prop := solidKnownRow.holds Tryz.pinned (OpenSpec.ofChange solidKnownWrong)

/- THE SECOND FORM. 'bulk': how many values and letters a reading holds, each counted each time it is reached (what is shared counts as often as it is met; a slice's spare places count too). A statement '..UptoSaid' is the law's where the arguments, and the package variables that the reading takes, are together of bulk at most 1048576: NARROWER than '..Said'. Prove '..Said' where nothing that the law and all that it calls make is longer than what came in: it says more and counts as full. Else prove '..UptoSaid'. A law counts once. -/
mutual
def uptoBulk {H : Type} : DataW H → Nat
  | .lit (.string bytes) => bytes.length + 1
  | .lit _ => 1
  | .nil => 1
  | .ptr d => uptoBulk d + 1
  | .slice elems spare => uptoBulkAll elems + uptoBulkAll spare + 1
  | .agg parts => uptoBulkAll parts + 1
  | .iface _ d => uptoBulk d + 1
  | .map entries => uptoBulkEntries entries + 1
  | .held _ => 1
def uptoBulkAll {H : Type} : List (DataW H) → Nat
  | [] => 0
  | d :: r => uptoBulk d + uptoBulkAll r
def uptoBulkEntries {H : Type} : List (Lit × DataW H) → Nat
  | [] => 0
  | x :: r => uptoBulkEntry x + uptoBulkEntries r
def uptoBulkEntry {H : Type} : Lit × DataW H → Nat
  | (.string bytes, d) => bytes.length + uptoBulk d + 1
  | (_, d) => uptoBulk d + 1
 end
def uptoSmall : (H : Type) → List (DataW H) → Bool := fun _ ds => decide (uptoBulkAll ds ≤ 1048576)
def OpenSpec.upto (s : _root_.Go.ChangeSpec) : _root_.Go.OpenSpec := { _root_.Go.OpenSpec.ofChange s with cond := some uptoSmall }

/-- 'bagatellelaw03.SolidPlaced', WHERE WHAT IT READS IS OF BULK AT MOST 1048576: true; the input reads as it did. -/
def solidPlacedUptoRow : OpenClaim := { program := "ytlpbblcepjlfpaagreat", sum := "5eafe48616e72fa3316ae035dbf2e7f32724e75b62b18f7162ae5c7391e7d649", func := "bagatelle/bagatellelaw03.SolidPlaced", spec := "solidPlaced", inPlace := ["math/bits.Add64", "math/bits.Sub64"], unfollowed := true, recurses := true, named := ["math/bits.divideError", "math/bits.overflowError"], apart := false, narrowed := true }
def SolidPlacedUptoSaid : Prop := solidPlacedUptoRow.holds Tryz.pinned (OpenSpec.upto solidPlacedSpec)

/-- 'bagatellelaw03.SolidClips', WHERE WHAT IT READS IS OF BULK AT MOST 1048576: true; the input reads as it did. -/
def solidClipsUptoRow : OpenClaim := { program := "ytlpbblcepjlfpaagreat", sum := "5eafe48616e72fa3316ae035dbf2e7f32724e75b62b18f7162ae5c7391e7d649", func := "bagatelle/bagatellelaw03.SolidClips", spec := "solidClips", inPlace := ["math/bits.Add64", "math/bits.Sub64"], unfollowed := true, recurses := true, named := ["math/bits.divideError", "math/bits.overflowError"], apart := false, narrowed := true }
def SolidClipsUptoSaid : Prop := solidClipsUptoRow.holds Tryz.pinned (OpenSpec.upto solidClipsSpec)

/-- 'bagatellelaw03.SolidTouches', WHERE WHAT IT READS IS OF BULK AT MOST 1048576: true; the input reads as it did. -/
def solidTouchesUptoRow : OpenClaim := { program := "ytlpbblcepjlfpaagreat", sum := "5eafe48616e72fa3316ae035dbf2e7f32724e75b62b18f7162ae5c7391e7d649", func := "bagatelle/bagatellelaw03.SolidTouches", spec := "solidTouches", inPlace := ["math/bits.Add64", "math/bits.Sub64"], unfollowed := true, recurses := true, named := ["math/bits.divideError", "math/bits.overflowError"], apart := false, narrowed := true }
def SolidTouchesUptoSaid : Prop := solidTouchesUptoRow.holds Tryz.pinned (OpenSpec.upto solidTouchesSpec)

/-- 'bagatellelaw03.SolidKnown', WHERE WHAT IT READS IS OF BULK AT MOST 1048576: true; the input reads as it did. -/
def solidKnownUptoRow : OpenClaim := { program := "ytlpbblcepjlfpaagreat", sum := "5eafe48616e72fa3316ae035dbf2e7f32724e75b62b18f7162ae5c7391e7d649", func := "bagatelle/bagatellelaw03.SolidKnown", spec := "solidKnown", inPlace := ["math/bits.Add64", "math/bits.Sub64"], unfollowed := true, recurses := true, named := ["math/bits.divideError", "math/bits.overflowError"], apart := false, narrowed := true }
def SolidKnownUptoSaid : Prop := solidKnownUptoRow.holds Tryz.pinned (OpenSpec.upto solidKnownSpec)

end Rows
end Go.Proofs.YtlpbblcepjlfpaaGreat
