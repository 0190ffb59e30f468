/- Texts that belong together; the first of them: Instructions, moves, and the rows in which they lie. -/
import Derived.Test.YtnkmddcadkcdcaaProg
import Derived.Test.YtnkmddcadkcdcaaMacC

/- Instructions, moves, and the rows in which they lie. -/
section
open Go Go.Proofs Go.Mac
namespace Go.Mac

structure InsZ where
  op : Int
  a : Int
  b : Int
  c : Int
  d : Int

structure MoveZ where
  th : Int
  pk : Bool

abbrev rowZ (x : Int) : List FC := [.int .i64 x]
abbrev rowU (x : Int) : List FC := [.int .u64 x]
abbrev rowB (x : Int) : List FC := [.int .u8 x]
abbrev rowIns (x : InsZ) : List FC := [.int .i64 x.op, .int .i64 x.a, .int .i64 x.b, .int .i64 x.c, .int .i64 x.d]
abbrev rowMove (x : MoveZ) : List FC := [.int .i64 x.th, .bool x.pk]

theorem follows : Try.prog.follows .mixedOrders = true := by decide +kernel

theorem fin {b : Bool} (h : b = true) : (bl b : AV) = bl true := congrArg bl h

end Go.Mac
end
