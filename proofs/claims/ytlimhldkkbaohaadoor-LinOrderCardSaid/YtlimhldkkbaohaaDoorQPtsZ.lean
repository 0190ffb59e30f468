/- lin.Points: what comes of calls, acts and events. -/
import Derived.Test.YtlimhldkkbaohaaDoorQEffZ
import Derived.Test.YtlimhldkkbaohaaDoorGCutMade
import Derived.Test.YtlimhldkkbaohaaDoorQJudge
open Go Go.Proofs Go.Mac
set_option maxRecDepth 100000
namespace Go.Mac

/-- When a thread was told, in order. -/
def endT (t : Nat) (el : List EvZ) : List Int := (el.filter fun e => e.t == (t : Int)).map (·.w)

/-- Are events answers to calls, one behind the other? -/
def endsOk (calls : List (List CallZ)) : List EvZ → List EvZ → Bool
  | _, [] => true
  | pre, e :: el => decide (e.a = 3 ∧ 0 ≤ e.t ∧ e.t < calls.length ∧ (endT e.t.toNat pre).length ≠ ((calls.getD e.t.toNat []).length)) && endsOk calls (pre ++ [e]) el

/-- The points of a thread's calls, from one on: those that are answered, and the next one. -/
def thrPts (t : Nat) (acts : List ActZ) : List CallZ → Nat → Int → List Int → List PtZ
  | [], _, _, _ => []
  | c :: cs, k, frm, w :: ws => effZ t k c.w acts frm w true ++ thrPts t acts cs (k + 1) w ws
  | c :: _, k, frm, [] => effZ t k c.w acts frm 9223372036854775807 false

def allPts (calls : List (List CallZ)) (acts : List ActZ) (el : List EvZ) : List PtZ :=
  ((List.range calls.length).map fun t => thrPts t acts (calls.getD t []) 0 0 (endT t el)).flatten

theorem endT_snoc (t : Nat) (el : List EvZ) (e : EvZ) : endT t (el ++ [e]) = if e.t = (t : Int) then endT t el ++ [e.w] else endT t el := by
  rw [endT, List.filter_append, List.map_append]
  by_cases h : e.t = (t : Int)
  · rw [if_pos h]
    simp [endT, h]
  · rw [if_neg h]
    have : (e.t == (t : Int)) = false := by simpa using h
    simp [endT, this]

theorem endT_len (t : Nat) (el : List EvZ) : (endT t el).length ≤ el.length := by
  rw [endT, List.length_map]
  exact List.length_filter_le _ _

/-- The slices while they are made: where each lies. -/
def endE (n : Nat) (lc : Nat → ILoc) (el : List EvZ) : List (Option (ILoc × List (List FC))) := (List.range n).map fun t => some (lc t, (endT t el).map rowZ)

theorem endE_get {n t : Nat} (lc : Nat → ILoc) (el : List EvZ) (h : t < n) : (endE n lc el)[t]? = some (some (lc t, (endT t el).map rowZ)) := by
  rw [endE, List.getElem?_map, List.getElem?_range h]
  rfl

theorem endE_len (n : Nat) (lc : Nat → ILoc) (el : List EvZ) : (endE n lc el).length = n := by simp [endE]

theorem endE_more {n t : Nat} (lc : Nat → ILoc) (el : List EvZ) (e : EvZ) (ht : t < n) (he : e.t = t) (l : ILoc) :
    ((endE n lc el).set t none).set t (some (l, (endT t el).map rowZ ++ [rowZ e.w])) = endE n (fun s => if s = t then l else lc s) (el ++ [e]) := by
  refine List.ext_getElem? fun s => ?_
  rcases Nat.lt_or_ge s n with hs | hs
  · rw [endE_get _ _ hs]
    by_cases hst : s = t
    · subst hst
      rw [List.getElem?_set_self (by rw [List.length_set, endE_len]; exact hs), if_pos rfl, endT_snoc, if_pos he, List.map_append]
      rfl
    · rw [List.getElem?_set_ne (Ne.symm hst), List.getElem?_set_ne (Ne.symm hst), endE_get _ _ hs, if_neg hst, endT_snoc, if_neg fun h => hst (by omega)]
  · rw [List.getElem?_eq_none (by rw [List.length_set, List.length_set, endE_len]; exact hs), List.getElem?_eq_none (by rw [endE_len]; exact hs)]

theorem endE_nil (n : Nat) : List.replicate (n : Int).toNat (some ((⟨0, 0, 0, 1⟩ : ILoc), ([] : List (List FC)))) = endE n (fun _ => ⟨0, 0, 0, 1⟩) [] := by
  rw [Int.toNat_natCast]
  refine List.ext_getElem? fun s => ?_
  rcases Nat.lt_or_ge s n with hs | hs
  · rw [endE_get _ _ hs, List.getElem?_replicate, if_pos hs]
    rfl
  · rw [List.getElem?_eq_none (by simpa using hs), List.getElem?_eq_none (by rw [endE_len]; exact hs)]

/-- What each was told when. -/
def endL (n : Nat) (el : List EvZ) : List (List Int) := (List.range n).map fun t => endT t el

/-- The points of the threads from one on. -/
def ptsFrom (calls : List (List CallZ)) (acts : List ActZ) (el : List EvZ) (t : Nat) : List PtZ :=
  (((List.range calls.length).drop t).map fun t => thrPts t acts (calls.getD t []) 0 0 (endT t el)).flatten

theorem ptsFrom_zero (calls : List (List CallZ)) (acts : List ActZ) (el : List EvZ) : ptsFrom calls acts el 0 = allPts calls acts el := rfl

theorem ptsFrom_end (calls : List (List CallZ)) (acts : List ActZ) (el : List EvZ) {t : Nat} (h : calls.length ≤ t) : ptsFrom calls acts el t = [] := by
  rw [ptsFrom, List.drop_eq_nil_of_le (by simpa using h)]
  rfl

theorem ptsFrom_step {calls : List (List CallZ)} (acts : List ActZ) (el : List EvZ) {t : Nat} {lt : List CallZ} (h : calls[t]? = some lt) : ptsFrom calls acts el t = thrPts t acts lt 0 0 (endT t el) ++ ptsFrom calls acts el (t + 1) := by
  have hl := (List.getElem?_eq_some_iff.1 h).1
  rw [ptsFrom, List.drop_eq_getElem_cons (by simpa using hl), List.map_cons, List.flatten_cons, List.getElem_range, List.getD_eq_getElem?_getD, h]
  rfl

theorem effZ_len (t k w : Int) (acts : List ActZ) (frm to : Int) (done : Bool) : (effZ t k w acts frm to done).length ≤ 2 := by
  rw [effZ]
  cases efRun t frm to done acts <;> simp only [efPts] <;> (try split) <;> simp

theorem effZ_cases (t k w : Int) (acts : List ActZ) (frm to : Int) (done : Bool) : effZ t k w acts frm to done = [] ∨ (∃ x, effZ t k w acts frm to done = [x]) ∨ ∃ x y, effZ t k w acts frm to done = [x, y] := by
  rw [effZ]
  cases efRun t frm to done acts <;> simp only [efPts] <;> (try split) <;> simp

theorem thrPts_len (t : Nat) (acts : List ActZ) : ∀ (cs : List CallZ) (k : Nat) (frm : Int) (ws : List Int), (thrPts t acts cs k frm ws).length ≤ 2 * ws.length + 2
  | [], _, _, ws => by simp [thrPts]
  | c :: cs, k, frm, w :: ws => by
    have h1 := effZ_len t k c.w acts frm w true
    have h2 := thrPts_len t acts cs (k + 1) w ws
    rw [thrPts, List.length_append, List.length_cons]
    omega
  | c :: _, k, frm, [] => by
    have h1 := effZ_len t k c.w acts frm 9223372036854775807 false
    rw [thrPts]
    simp only [List.length_nil]
    omega

theorem filt_sum (el : List EvZ) : ∀ n : Nat, ((List.range n).map fun t => (endT t el).length).sum ≤ el.length := by
  have key : ∀ n : Nat, ((List.range n).map fun t => (endT t el).length).sum = (el.filter fun e => decide (0 ≤ e.t ∧ e.t < (n : Int))).length := by
    intro n
    induction n with
    | zero =>
      rw [List.filter_eq_nil_iff.2]
      · rfl
      · intro e _
        simp
    | succ n ih =>
      rw [List.range_succ, List.map_append, List.sum_append, ih]
      have : ∀ l : List EvZ, (l.filter fun e => decide (0 ≤ e.t ∧ e.t < ((n + 1 : Nat) : Int))).length = (l.filter fun e => decide (0 ≤ e.t ∧ e.t < (n : Int))).length + (endT n l).length := by
        intro l
        induction l with
        | nil => rfl
        | cons e l ih2 =>
          rw [endT, List.length_map] at ih2 ⊢
          rw [List.filter_cons, List.filter_cons, List.filter_cons]
          by_cases h1 : e.t = (n : Int)
          · rw [if_pos (by rw [decide_eq_true_iff]; omega), if_neg (by rw [decide_eq_true_iff]; omega), if_pos (by simpa using h1), List.length_cons, List.length_cons, ih2]
            omega
          · rw [if_neg (c := (e.t == (n : Int)) = true) (by simpa using h1)]
            by_cases h2 : 0 ≤ e.t ∧ e.t < (n : Int)
            · rw [if_pos (by rw [decide_eq_true_iff]; omega), if_pos (by rw [decide_eq_true_iff]; exact h2), List.length_cons, List.length_cons, ih2]
              omega
            · rw [if_neg (by rw [decide_eq_true_iff]; omega), if_neg (by rw [decide_eq_true_iff]; exact h2), ih2]
      rw [this]
      simp
  intro n
  rw [key]
  exact List.length_filter_le _ _

theorem allPts_len (calls : List (List CallZ)) (acts : List ActZ) (el : List EvZ) : (allPts calls acts el).length ≤ 2 * el.length + 2 * calls.length := by
  have h : ∀ l : List Nat, ((l.map fun t => thrPts t acts (calls.getD t []) 0 0 (endT t el)).flatten).length ≤ 2 * (l.map fun t => (endT t el).length).sum + 2 * l.length := by
    intro l
    induction l with
    | nil => simp
    | cons t l ih =>
      have := thrPts_len t acts (calls.getD t []) 0 0 (endT t el)
      rw [List.map_cons, List.flatten_cons, List.length_append, List.map_cons, List.sum_cons, List.length_cons]
      omega
  have h1 := h (List.range calls.length)
  have h2 := filt_sum el calls.length
  rw [List.length_range] at h1
  rw [allPts]
  omega

end Go.Mac
