/- Who awaits, and who tells: all states that two threads come to. -/
import Derived.Test.YtljglfophhagjaaDoorQMachNrm
open Go Go.Proofs Go.Mac
set_option maxRecDepth 100000
namespace Go.Mac

abbrev awA : List InsZ := [⟨1, 0, 1, 0, 0⟩, ⟨6, 1, 0, 0, 0⟩, ⟨12, 1, 0, 4, 0⟩, ⟨10, 6, 0, 0, 0⟩, ⟨14, 0, 1, 0, 0⟩, ⟨10, 1, 0, 0, 0⟩, ⟨16, 3, 0, 0, 0⟩, ⟨0, 0, 0, 0, 0⟩]
abbrev awB : List InsZ := [⟨1, 0, 1, 0, 0⟩, ⟨7, 0, 0, -1, 0⟩, ⟨15, 0, 1, -1, 0⟩, ⟨16, 3, 0, 0, 0⟩, ⟨0, 0, 0, 0, 0⟩]

def awN (c : Cfg) (t : Int) : Cfg := stepC [awA, awB] 1 c t
def aw0 : Cfg := ([(0, [0, 0, 0, 0, 0, 0, 0, 0], false), (0, [0, 0, 0, 0, 0, 0, 0, 0], false)], [0], [], [])

def addC (l : List Cfg) (c : Cfg) : List Cfg := if l.contains c then l else l ++ [c]

/-- All states within so many steps. -/
def awR : Nat → List Cfg → List Cfg
  | 0, l => l
  | n + 1, l => awR n (l.foldl (fun acc c => addC (addC acc (awN c 0)) (awN c 1)) l)

/-- Thirty rounds more. -/
def awE : Nat → Cfg → Cfg
  | 0, c => c
  | n + 1, c => awE n (awN (awN c 1) 0)

def awS : List Cfg := awR 24 [aw0]

theorem aw_begin : awS.contains aw0 = true := by decide +kernel
theorem aw_closed : (awS.all fun c => awS.contains (awN c 0) && awS.contains (awN c 1)) = true := by decide +kernel
theorem aw_good : (awS.all fun c => (c.2.2.2.isEmpty || c.2.1 == [1]) && c.2.1.length == 1) = true := by decide +kernel
theorem aw_ends : (awS.all fun c => (awE 30 c).1.all (·.2.2) && (awE 30 c).2.2.2.length == 2) = true := by decide +kernel

end Go.Mac
