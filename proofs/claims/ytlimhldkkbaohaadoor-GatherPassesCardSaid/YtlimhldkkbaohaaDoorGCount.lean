/- Texts that belong together; the first of them: How many calls of a kind there are; what was done to cells. -/
import Derived.Test.YtlimhldkkbaohaaDoorGCutMade

/- How many calls of a kind there are; what was done to cells. -/
section
open Go Go.Proofs Go.Mac
set_option maxRecDepth 100000
namespace Go.Mac

def countL (w : Int) (l : List CallZ) : Nat := (l.filter fun c => c.w == w).length
def countZ (w : Int) (ls : List (List CallZ)) : Nat := (ls.map (countL w)).sum

theorem countL_take (w : Int) (l : List CallZ) (i : Nat) (c : CallZ) (h : l[i]? = some c) : countL w (l.take (i + 1)) = countL w (l.take i) + if c.w = w then 1 else 0 := by
  rw [countL, List.take_add_one, h, List.filter_append, List.length_append, countL]
  by_cases e : c.w = w <;> simp [e]

theorem countZ_take (w : Int) (ls : List (List CallZ)) (i : Nat) (l : List CallZ) (h : ls[i]? = some l) : countZ w (ls.take (i + 1)) = countZ w (ls.take i) + countL w l := by
  rw [countZ, List.take_add_one, h, List.map_append, List.sum_append, countZ]
  simp

theorem countL_le (w : Int) (l : List CallZ) (i : Nat) : countL w (l.take i) ≤ i := by
  have := List.length_filter_le (fun c : CallZ => c.w == w) (l.take i)
  rw [List.length_take] at this
  rw [countL]; omega

section
variable {K : AV → List Nat → List PO → Prop} {m : MZ} {v : VZ}

theorem coreActs (hal : m.al.length < 1000000) (h : K (cv (.slc 9 0 m.al.length none false)) [] (machH m v ++ [.rows false 6 (m.al.map rowAct)])) :
    Does Tryd.prog 47 [cv (.ptr 0 0)] (machH m v) K := by
  refine does Tryd.func47 rfl (by decide) ?_
  have e : (List.take m.al.length (List.drop 0 (m.al.map rowAct))) = m.al.map rowAct := by rw [List.drop_zero, List.take_of_length_le]; simp
  have e2 : (m.al.map rowAct).length = m.al.length := by simp
  refine And.intro (by simp) (And.intro ?_ (And.intro ?_ ?_))
  · rw [e, e2]
    show m.al.length * 48 ≤ _
    omega
  · rw [e, e2]; omega
  · rw [e, e2]
    exact h

end
end Go.Mac
end
