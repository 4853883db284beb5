/- The walks of package span (unit, Days, Text, Parse, After, Add) and of its reference's functions. -/
import Derived.Test.YtppnlijeonneeaaDoorBase
namespace Go.Proofs.YtppnlijeonneeaaDoor
open Go Go.RowKit

/-- How many days a unit has. -/
def unitD (c : Int) : Int := if c = 121 then 365 else if c = 109 then 30 else if c = 119 then 7 else if c = 100 then 1 else 0

theorem unitD_cases (c : Int) : unitD c = 0 ∨ unitD c = 1 ∨ unitD c = 7 ∨ unitD c = 30 ∨ unitD c = 365 := by
  unfold unitD
  repeat' split
  all_goals simp

/-- So many of a unit: the days, and the error's number. -/
def daysU (n u : Int) : Int × Int := if n < 0 ∨ u = 0 then (0, 1) else if 1048576 / u < n then (0, 16) else (n * u, 0)
def daysD (n c : Int) : Int × Int := daysU n (unitD c)

/-- The tick behind a span. -/
def afterD (t d : Int) : Int × Bool := if t < 0 ∨ 1099511627776 < t ∨ d < 0 ∨ 1048576 < d ∨ 1099511627776 - t < d then (0, false) else (t + d, true)
def addD (c n : Int) : Int × Int := if c < 0 ∨ 1099511627776 < c ∨ n < 1 then (0, 1) else if 1099511627776 - c < n then (0, 16) else (c + n, 0)

end Go.Proofs.YtppnlijeonneeaaDoor
