/- The law FnExactConstants answers true: it has no arguments and no conditions. -/
import Derived.Test.YtnkaccacippbfaaPFnExactConstantsx1
namespace Go.Proofs.Ytnkaccacippbfaa.Pure
open Go.RowKit Go.Proofs.Ytnkaccacippbfaa.PFnExactConstants Go.Proofs.YtnkaccacippbfaaW.PrintWords Go.Proofs.YtnkaccacippbfaaW.PrintLast

/-- YOURS: laws_FnExactConstants.f  = some true
What it reaches (each with k first where it has rounds; `.mono`: more rounds tell the same; `.l0`, ..: its loops, with `.mono_l`): laws_FnExactConstants.f -/
theorem FnExactConstants : laws_FnExactConstants.Pure := by
  rfl

end Go.Proofs.Ytnkaccacippbfaa.Pure
