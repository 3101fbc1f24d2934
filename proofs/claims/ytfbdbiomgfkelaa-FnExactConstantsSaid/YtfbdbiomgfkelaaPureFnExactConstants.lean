/- The law's printed pure statement: the Lean function of FnExactConstants answers true. No condition. -/
import Derived.Test.YtfbdbiomgfkelaaPFnExactConstantsx1
namespace Go.Proofs.Ytfbdbiomgfkelaa.Pure
open Go.RowKit Go.Proofs.Ytfbdbiomgfkelaa.PFnExactConstants Go.Proofs.YtfbdbiomgfkelaaW.PrintWords Go.Proofs.YtfbdbiomgfkelaaW.PrintLast

/-- YOURS: laws_FnExactConstants.f  = some true
What it reaches (each with k first where it has rounds; `.mono`: more rounds tell the same; `.l0`, ..: its loops, with `.mono_l`): laws_FnExactConstants.f -/
theorem FnExactConstants : laws_FnExactConstants.Pure := by
  rfl

end Go.Proofs.Ytfbdbiomgfkelaa.Pure
