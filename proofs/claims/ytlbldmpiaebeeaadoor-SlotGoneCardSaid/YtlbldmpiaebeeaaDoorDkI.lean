/- Disks: a sector of one byte (the law's Full). -/
import Derived.Test.YtlbldmpiaebeeaaDoorDkG
namespace Go.Proofs.YtlbldmpiaebeeaaDoor
open Go Go.RowKit

end Go.Proofs.YtlbldmpiaebeeaaDoor
