/- Calls. -/
import Derived.Test.YtlimhldkkbaohaaGreatDoorGBase
namespace Go.Mac

structure CallZ where
  w : Int
  n : Int

abbrev rowCallZ (x : CallZ) : List FC := [.int .i64 x.w, .int .i64 x.n]

end Go.Mac
