/- How many calls of a kind there are; what was done to cells. -/
import Derived.Test.YtfgmlilpojnnhaaDoorQMade
open Go Go.Proofs Go.Mac
set_option maxRecDepth 100000
namespace Go.Mac

def countL (w : Int) (l : List CallZ) : Nat := (l.filter fun c => c.w == w).length
def countZ (w : Int) (ls : List (List CallZ)) : Nat := (ls.map (countL w)).sum

theorem countL_take (w : Int) (l : List CallZ) (i : Nat) (c : CallZ) (h : l[i]? = some c) : countL w (l.take (i + 1)) = countL w (l.take i) + if c.w = w then 1 else 0 := by
  rw [countL, List.take_add_one, h, List.filter_append, List.length_append, countL]
  by_cases e : c.w = w <;> simp [e]

theorem countZ_take (w : Int) (ls : List (List CallZ)) (i : Nat) (l : List CallZ) (h : ls[i]? = some l) : countZ w (ls.take (i + 1)) = countZ w (ls.take i) + countL w l := by
  rw [countZ, List.take_add_one, h, List.map_append, List.sum_append, countZ]
  simp

theorem countL_le (w : Int) (l : List CallZ) (i : Nat) : countL w (l.take i) ≤ i := by
  have := List.length_filter_le (fun c : CallZ => c.w == w) (l.take i)
  rw [List.length_take] at this
  rw [countL]; omega

section
variable {K : AV → List Nat → List PO → Prop} {m : MZ} {v : VZ}

theorem coreActs (hal : m.al.length < 1000000) (h : K (cv (.slc 9 0 m.al.length none false)) [] (machH m v ++ [.rows false 6 (m.al.map rowAct)])) :
    Does Tryd.prog 25 [cv (.ptr 0 0)] (machH m v) K := by
  refine does Tryd.func25 rfl (by decide) ?_
  have e : (List.take m.al.length (List.drop 0 (m.al.map rowAct))) = m.al.map rowAct := by rw [List.drop_zero, List.take_of_length_le]; simp
  have e2 : (m.al.map rowAct).length = m.al.length := by simp
  refine And.intro (by simp) (And.intro ?_ (And.intro ?_ ?_))
  · rw [e, e2]
    show m.al.length * 48 ≤ _
    omega
  · rw [e, e2]; omega
  · rw [e, e2]
    exact h

theorem count {ls : List (List CallZ)} {w : Int} {n : Nat} {ro nn : Bool} {c : Option Nat} (hl : ls.length = n) (hn : n ≤ 16) (hm : ∀ l ∈ ls, l.length ≤ 12) (h : K (i64 (countZ w ls)) [] [callsH ro ls]) :
    Does Tryd.prog 29 [cv (.slc 0 0 n c nn), i64 w] [callsH ro ls] K := by
  have hcb : ∀ i, i ≤ n → countZ w (ls.take i) ≤ 12 * i := fun i => by
    induction i with
    | zero => intro _; simp [countZ]
    | succ i ih =>
      intro hi
      obtain ⟨l, hl'⟩ : ∃ l, ls[i]? = some l := ⟨_, List.getElem?_eq_getElem (by omega)⟩
      rw [countZ_take w ls i l hl']
      have h1 := ih (by omega)
      have h2 := hm l (List.mem_of_getElem? hl')
      have h3 := countL_le w l l.length
      rw [List.take_length] at h3
      omega
  refine does Tryd.func29 rfl (by decide) ?_
  refine SS.loop (fun i : Nat => i ≤ n) (fun i => [(1, i64 w), (5, i64 (countZ w (ls.take i))), (10, cv (.slc 0 0 n c nn)), (11, i64 n), (12, i64 i)]) (fun _ => [callsH ro ls]) (fun i => n - i) []
    (At.mk' [1, 5, 10, 11, 12] 0 (by simp) ⟨rfl, rfl⟩ rfl rfl (by simp) (by simp) (by simp)) ?_
  intro i hi
  change i ≤ n at hi
  refine S_r ?_
  refine brc_intro (fun hlt => ?_) (fun hlt => ?_)
  · have hlt : i < n := by
      have := of_decide_eq_true hlt
      have : (i : Int) < (n : Int) := this
      omega
    obtain ⟨l, hl'⟩ : ∃ l, ls[i]? = some l := ⟨_, List.getElem?_eq_getElem (by omega)⟩
    have hlm : (ls.map fun l => l.map rowCallZ)[0 + Int.toNat (i : Int)]? = some (l.map rowCallZ) := by simp [hl']
    have hll : (l.map rowCallZ).length = l.length := by simp
    have hl12 := hm l (List.mem_of_getElem? hl')
    have hci := hcb i hi
    refine at2 (a := (0 : Int) ≤ (i : Int)) (b := (i : Int) < (n : Int)) (by omega) (by omega) ?_
    refine Exists.intro (l.map rowCallZ) (And.intro hlm ?_)
    rw [hll, show 0 + Int.toNat (i : Int) = i from by simp]
    refine SS.loop (fun j : Nat => j ≤ l.length) (fun j => [(1, i64 w), (5, i64 (countZ w (ls.take i) + countL w (l.take j) : Nat)), (10, cv (.slc 0 0 n c nn)), (11, i64 n), (12, i64 i), (16, cv (.islc 0 i 0 l.length none false)), (17, i64 l.length), (18, i64 j)]) (fun _ => [callsH ro ls]) (fun j => l.length - j) []
      (At.mk' [1, 5, 10, 11, 12, 16, 17, 18] 0 (by simp) ⟨rfl, rfl⟩ rfl rfl (by simp) (by simp) (by simp)) ?_
    intro j hj
    change j ≤ l.length at hj
    refine S_r ?_
    refine brc_intro (fun hlt2 => ?_) (fun hlt2 => ?_)
    · have hlt2 : j < l.length := by
        have := of_decide_eq_true hlt2
        have : (j : Int) < (l.length : Int) := this
        omega
      obtain ⟨y, hy⟩ : ∃ y, l[j]? = some y := ⟨_, List.getElem?_eq_getElem hlt2⟩
      have hym : (l.map rowCallZ)[0 + Int.toNat (j : Int)]? = some (rowCallZ y) := by simp [hy]
      have hct := countL_take w l j y hy
      have hcl := countL_le w l j
      refine SS.inlR ?_
      refine And.intro (by rw [List.length_map]; omega) (at2 (a := (0 : Int) ≤ (j : Int)) (b := (j : Int) < (l.length : Int)) (by omega) (by omega) ?_)
      refine Exists.intro (l.map rowCallZ) (Exists.intro (rowCallZ y) (And.intro (by simp [hl']) (And.intro hym ?_)))
      refine brc_intro (fun he => ?_) (fun he => ?_)
      · have he : y.w = w := by simpa using he
        rw [if_pos he] at hct
        refine At.mk' [1, 5, 10, 11, 12, 16, 17, 18] (j + 1) ⟨hlt2, by omega⟩ ⟨?_, rfl⟩ rfl rfl (by simp) (by simp) (by decide)
        rw [wrap_i64 (j + 1) (by omega) (by omega), wrap_i64 (_ + 1) (by omega) (by omega), hct]
        rfl
      · have he : y.w ≠ w := by simpa using he
        rw [if_neg he] at hct
        refine At.mk' [1, 5, 10, 11, 12, 16, 17, 18] (j + 1) ⟨hlt2, by omega⟩ ⟨?_, rfl⟩ rfl rfl (by simp) (by simp) (by decide)
        rw [wrap_i64 (j + 1) (by omega) (by omega), hct]
        rfl
    · have hlt2 : ¬ (j : Int) < (l.length : Int) := of_decide_eq_false hlt2
      obtain rfl : j = l.length := by omega
      rw [List.take_length]
      refine At.mk' [1, 5, 10, 11, 12] (i + 1) ⟨hlt, by omega⟩ ⟨?_, rfl⟩ rfl rfl (by simp) (by simp) (by decide)
      rw [wrap_i64 (i + 1) (by omega) (by omega), countZ_take w ls i l hl']
      rfl
  · have hlt : ¬ (i : Int) < (n : Int) := of_decide_eq_false hlt
    obtain rfl : i = n := by omega
    rw [List.take_of_length_le (by omega)]
    exact h

end
end Go.Mac
