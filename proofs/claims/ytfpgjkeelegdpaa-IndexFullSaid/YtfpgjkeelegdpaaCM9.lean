/-
  What the rows say of the whole program, word by word.
-/
import Derived.Test.YtfpgjkeelegdpaaCM8
import Derived.Test.YtfpgjkeelegdpaaRows
import Derived.JoinedOf
namespace Go.Ax
open Go.Proofs
theorem andT {a b : Bool} (h : a = true) (k : b = true) : (a && b) = true := by rw [h, k]; rfl
theorem laidOut : laidOutB Try.prog = true := by kernel_rfl
theorem fRowed : mapsRowed Try.prog = true := by kernel_rfl
theorem fStops : (Try.prog.stops == []) = true := by kernel_rfl
theorem fStopK : (Try.prog.stopKnobs == []) = true := by kernel_rfl
theorem fPlain : (true == Try.prog.plainKeys) = true := by kernel_rfl
theorem fHeard : Try.prog.stopsHeard = true := by kernel_rfl
theorem fMay : Try.prog.mayEnter = true := by kernel_rfl
theorem fLift : (false == Try.prog.liftsFinal) = true := by kernel_rfl
theorem fMake : (Try.prog.make == some Ytfpgjkeelegdpaa.Rows.indexHandlesRow.make) = true := by kernel_rfl
end Go.Ax
