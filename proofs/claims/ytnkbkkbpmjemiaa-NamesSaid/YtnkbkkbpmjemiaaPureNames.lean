/- The names of api stand for the document's numbers: the law Names answers true. There is no condition: the law has no argument. -/
import Derived.Test.YtnkbkkbpmjemiaaPNamesx1
namespace Go.Proofs.Ytnkbkkbpmjemiaa.Pure
open Go.RowKit Go.Proofs.Ytnkbkkbpmjemiaa.PNames Go.Proofs.YtnkbkkbpmjemiaaW.PrintWords Go.Proofs.YtnkbkkbpmjemiaaW.PrintLast

/-- The two lists are equal, place by place: 66 rounds tell it. -/
theorem Names : lychgatelaw0_Names.Pure := by
  exact ⟨66, by decide +kernel⟩

end Go.Proofs.Ytnkbkkbpmjemiaa.Pure
