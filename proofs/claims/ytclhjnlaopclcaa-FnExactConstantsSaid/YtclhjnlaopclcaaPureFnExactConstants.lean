/- The law FnExactConstants, as printed over plain data, answers true; there are no conditions. -/
import Derived.Test.YtclhjnlaopclcaaPFnExactConstantsx1
namespace Go.Proofs.Ytclhjnlaopclcaa.Pure
open Go.RowKit Go.Proofs.Ytclhjnlaopclcaa.PFnExactConstants Go.Proofs.YtclhjnlaopclcaaW.PrintWords Go.Proofs.YtclhjnlaopclcaaW.PrintLast

theorem FnExactConstants : laws_FnExactConstants.Pure := by
  unfold laws_FnExactConstants.Pure laws_FnExactConstants.f
  rfl

end Go.Proofs.Ytclhjnlaopclcaa.Pure
