/- slices.Clip at ints. -/
import Derived.Test.YtmgpohomgblkkaaDoorRows
import Derived.Test.YtmgpohomgblkkaaDoorRow
namespace Go.Proofs.YtmgpohomgblkkaaDoor
open Go.RowKit

end Go.Proofs.YtmgpohomgblkkaaDoor
