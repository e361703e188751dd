/-
  What the rows say of the whole program, word by word.
-/
import Derived.Test.YtfpgjkeelegdpaaGreatCM8
import Derived.Test.YtfpgjkeelegdpaaGreatRows
import Derived.JoinedOf
namespace Go.Ax
open Go.Proofs
theorem andT {a b : Bool} (h : a = true) (k : b = true) : (a && b) = true := by rw [h, k]; rfl
theorem laidOut : laidOutB Tryz.prog = true := by kernel_rfl
theorem fRowed : mapsRowed Tryz.prog = true := by kernel_rfl
theorem fStops : (Tryz.prog.stops == []) = true := by kernel_rfl
theorem fStopK : (Tryz.prog.stopKnobs == []) = true := by kernel_rfl
theorem fPlain : (true == Tryz.prog.plainKeys) = true := by kernel_rfl
theorem fHeard : Tryz.prog.stopsHeard = true := by kernel_rfl
theorem fMay : Tryz.prog.mayEnter = true := by kernel_rfl
theorem fLift : (false == Tryz.prog.liftsFinal) = true := by kernel_rfl
theorem fMake : (Tryz.prog.make == some YtfpgjkeelegdpaaGreat.Rows.indexLeastRow.make) = true := by kernel_rfl
end Go.Ax
