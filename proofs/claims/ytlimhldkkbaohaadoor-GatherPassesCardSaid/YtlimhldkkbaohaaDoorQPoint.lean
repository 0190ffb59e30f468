/- Points at which calls take effect. -/
import Derived.Test.YtlimhldkkbaohaaDoorGCutMade
namespace Go.Mac

structure PtZ where
  w : Int
  t : Int
  k : Int
  l : Bool

abbrev rowPt (x : PtZ) : List FC := [.int .i64 x.w, .int .i64 x.t, .int .i64 x.k, .bool x.l]

end Go.Mac
