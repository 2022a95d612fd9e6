/- IndexFunc and ContainsFunc of package slices at ints, where the closure has caught one variable. -/
import Derived.Test.YtmgpohomgblkkaaDoorSlices
namespace Go.Proofs.YtmgpohomgblkkaaDoor
open Go.RowKit

end Go.Proofs.YtmgpohomgblkkaaDoor
