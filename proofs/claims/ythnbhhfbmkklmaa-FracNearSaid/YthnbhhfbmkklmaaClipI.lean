/- slices.Clip at ints. -/
import Derived.Test.YthnbhhfbmkklmaaRows
import Derived.Test.YthnbhhfbmkklmaaRow
namespace Go.Proofs.Ythnbhhfbmkklmaa
open Go.RowKit

end Go.Proofs.Ythnbhhfbmkklmaa
