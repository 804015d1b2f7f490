/- The errors numbers of the layer, and the limit, are what the document says: no condition. -/
import Derived.Test.YtpiihodkonegbaaPPathNamesx1
namespace Go.Proofs.Ytpiihodkonegbaa.Pure
open Go.RowKit Go.Proofs.Ytpiihodkonegbaa.PPathNames Go.Proofs.YtpiihodkonegbaaW.PrintWords Go.Proofs.YtpiihodkonegbaaW.PrintLast

/-- YOURS: hallmarklaw08_PathNames.f  = some true
What it reaches (each with k first where it has rounds; `.mono`: more rounds tell the same; `.l0`, ..: its loops, with `.mono_l`): hallmarklaw08_PathNames.f -/
theorem PathNames : hallmarklaw08_PathNames.Pure := by
  rfl

end Go.Proofs.Ytpiihodkonegbaa.Pure
