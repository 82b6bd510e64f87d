/-
  What the frames of layer 27 ask.
-/
import Derived.Test.YtfhikkmgclkcdaaSttTypes
namespace Go.Proofs.Ytfhikkmgclkcdaa
open Go.ChangeShapes Go.WideShapes Go.RowKit Go.Deep Go.Joins

theorem own : ownKnob Try.prog.godebug = none := by kernel_rfl
theorem laidOut : laidOutB Try.prog = true := by kernel_rfl

end Go.Proofs.Ytfhikkmgclkcdaa
