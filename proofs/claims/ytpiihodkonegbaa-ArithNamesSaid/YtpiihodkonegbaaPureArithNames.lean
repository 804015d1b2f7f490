/- The errors numbers of the layer, and the limit, are what the document says: no condition. -/
import Derived.Test.YtpiihodkonegbaaPArithNamesx1
namespace Go.Proofs.Ytpiihodkonegbaa.Pure
open Go.RowKit Go.Proofs.Ytpiihodkonegbaa.PArithNames Go.Proofs.YtpiihodkonegbaaW.PrintWords Go.Proofs.YtpiihodkonegbaaW.PrintLast

/-- YOURS: hallmarklaw20_ArithNames.f  = some true
What it reaches (each with k first where it has rounds; `.mono`: more rounds tell the same; `.l0`, ..: its loops, with `.mono_l`): hallmarklaw20_ArithNames.f -/
theorem ArithNames : hallmarklaw20_ArithNames.Pure := by
  rfl

end Go.Proofs.Ytpiihodkonegbaa.Pure
