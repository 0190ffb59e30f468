/- lin.effects: a call's points. -/
import Derived.Test.YtlimhldkkbaohaaDoorQAtR
import Derived.Test.YtlimhldkkbaohaaDoorQSortZ
import Derived.Test.YtlimhldkkbaohaaDoorGMachA
open Go Go.Proofs Go.Mac
set_option maxRecDepth 100000
namespace Go.Mac

/-- What was found so far: the last step of all, and the last one that changed the cell. -/
inductive EfS where
  | s0
  | s1 (w : Int)
  | s2 (w : Int)
  | s3 (c w : Int)

/-- An act of a call, between two steps. -/
def hitB (t frm to : Int) (done : Bool) (a : ActZ) : Bool := a.t == t && (a.c == 0 && (decide (frm < a.w) && !(done && decide (a.w ≥ to))))

def efStep (s : EfS) (a : ActZ) : EfS :=
  if a.o = 9 ∧ a.x ≠ a.y then .s2 a.w
  else match s with
    | .s0 => .s1 a.w
    | .s1 _ => .s1 a.w
    | .s2 c => .s3 c a.w
    | .s3 c _ => .s3 c a.w

def efRun (t frm to : Int) (done : Bool) (l : List ActZ) : EfS := l.foldl (fun s a => if hitB t frm to done a = true then efStep s a else s) .s0

def efPts (t k w : Int) (done : Bool) : EfS → List PtZ
  | .s0 => []
  | .s1 v => if done = true then [⟨v, t, k, false⟩] else []
  | .s2 v => if w = 9 ∧ done = true then [⟨v, t, k, false⟩, ⟨v, t, k, true⟩] else [⟨v, t, k, false⟩]
  | .s3 c v => if w = 9 ∧ done = true then [⟨c, t, k, false⟩, ⟨v, t, k, true⟩] else [⟨c, t, k, false⟩]

/-- A call's points. -/
def effZ (t k w : Int) (acts : List ActZ) (frm to : Int) (done : Bool) : List PtZ := efPts t k w done (efRun t frm to done acts)

theorem efRun_take {t frm to : Int} {done : Bool} {l : List ActZ} {i : Nat} {a : ActZ} (h : l[i]? = some a) : efRun t frm to done (l.take (i + 1)) = if hitB t frm to done a = true then efStep (efRun t frm to done (l.take i)) a else efRun t frm to done (l.take i) := by
  rw [efRun, List.take_add_one, h, List.foldl_append]
  rfl

end Go.Mac
