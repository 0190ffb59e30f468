/- Texts that belong together; the first of them: Calls. -/
import Derived.Test.YtlimhldkkbaohaaGBase

/- Calls. -/
section
namespace Go.Mac

structure CallZ where
  w : Int
  n : Int

abbrev rowCallZ (x : CallZ) : List FC := [.int .i64 x.w, .int .i64 x.n]

end Go.Mac
end
