/- The errors numbers of the layer, and the limit, are what the document says: no condition. -/
import Derived.Test.YtpiihodkonegbaaPReaderNamesx1
namespace Go.Proofs.Ytpiihodkonegbaa.Pure
open Go.RowKit Go.Proofs.Ytpiihodkonegbaa.PReaderNames Go.Proofs.YtpiihodkonegbaaW.PrintWords Go.Proofs.YtpiihodkonegbaaW.PrintLast

/-- YOURS: hallmarklaw05_ReaderNames.f  = some true
What it reaches (each with k first where it has rounds; `.mono`: more rounds tell the same; `.l0`, ..: its loops, with `.mono_l`): hallmarklaw05_ReaderNames.f -/
theorem ReaderNames : hallmarklaw05_ReaderNames.Pure := by
  rfl

end Go.Proofs.Ytpiihodkonegbaa.Pure
