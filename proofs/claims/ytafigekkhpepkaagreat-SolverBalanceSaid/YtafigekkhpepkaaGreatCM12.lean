/-
  What the rows say of the whole program, word by word.
-/
import Derived.Test.YtafigekkhpepkaaGreatCM11
import Derived.Test.YtafigekkhpepkaaGreatRows
import Derived.JoinedOf
set_option linter.unusedVariables false
set_option linter.unusedSimpArgs false
namespace Go.Ax
open Go.Proofs Go.Proofs.Tryz
theorem andT {a b:Bool} (h:a = true) (k:b = true):(a && b) = true:=by rw [h,k]; rfl
theorem laidOut:laidOutB prog = true:=by kernel_rfl
theorem fRowed:mapsRowed prog = true:=by kernel_rfl
theorem fStops:(prog.stops == []) = true:=by kernel_rfl
theorem fStopK:(prog.stopKnobs == []) = true:=by kernel_rfl
theorem fPlain:(true == prog.plainKeys) = true:=by kernel_rfl
theorem fHeard:prog.stopsHeard = true:=by kernel_rfl
theorem fMay:prog.mayEnter = true:=by kernel_rfl
theorem fLift:(false == prog.liftsFinal) = true:=by kernel_rfl
theorem fMake:(prog.make == some YtafigekkhpepkaaGreat.Rows.solverMovesRow.make) = true:=by kernel_rfl
end Go.Ax