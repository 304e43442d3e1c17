/-
  Part of the proof: lemmas about the functions that the row calls, and about the steps of a run. Conditions: those ahead of each lemma.
-/
import Derived.Test.YtiiafibkblpbcaaGreatR0
set_option linter.unusedVariables false
set_option linter.unusedSimpArgs false
set_option maxRecDepth 100000
set_option maxHeartbeats 64000000
namespace Go.Proofs.YtiiafibkblpbcaaGreat
open Go Go.Eng Go.ChangeShapes Go.WideShapes Go.RowKit
theorem ji6:joinedFacts Tryz.prog 6 Tryz.f6 Rows.boundsSmallSpec Rows.boundsSmallRow=true:=by kernel_rfl
end Go.Proofs.YtiiafibkblpbcaaGreat
