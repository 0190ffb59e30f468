/- Lots: who is woken for nothing. -/
import Derived.Test.YtondghnbecnpiaaDoorQPark
open Go Go.Proofs Go.Mac
set_option maxRecDepth 100000
namespace Go.Mac

section
variable {K : AV → List Nat → List PO → Prop} {n : Int} {k : Nat} {nn : Bool} {ss ex : List Slp}

theorem delSlp {pre post : List Slp} {x : Slp} (hn : pre.length + post.length + 1 < 1000000)
    (h : K (cv (.slc 0 0 (pre.length + post.length) none true)) [] [.rows false 2 ((pre ++ post ++ ⟨0, 0⟩ :: ex).map rowS)]) :
    Does Tryd.prog 86 [cv (.slc 0 0 (pre.length + post.length + 1) none nn), i64 pre.length, i64 ((pre.length + 1 : Nat) : Int)] [.rows false 2 ((pre ++ x :: post ++ ex).map rowS)] K := by
  refine does Tryd.func86 rfl (by decide) ?_
  refine And.intro (by omega) (And.intro (by omega) (And.intro (by omega) (And.intro (by omega) ?_)))
  refine brc_intro (fun h => absurd h (by simp; omega)) (fun _ => ?_)
  refine SS.drawR follows (by decide) ?_
  refine Or.inl (And.intro (by omega) (And.intro (by omega) ?_))
  refine Or.inl (And.intro (by omega) (And.intro (by omega) ?_))
  refine And.intro (by simp; omega) ?_
  have hnn : (nn || Nat.blt 0 (pre.length + post.length + 1)) = true := by simp [Nat.blt]
  have hx : (((pre ++ x :: post ++ ex).map rowS).drop (0 + ((pre.length + 1 : Nat) : Int).toNat)).take (pre.length + post.length + 1 - ((pre.length + 1 : Nat) : Int).toNat) = post.map rowS := by
    simp [List.drop_append, List.take_append]
  rw [hx]
  refine Or.inr (And.intro rfl (And.intro hnn (And.intro ?_ ?_)))
  · simp
    omega
  obtain ⟨y, hy⟩ : ∃ y, (x :: post).drop post.length = [y] := by
    have : ((x :: post).drop post.length).length = 1 := by simp
    match h : (x :: post).drop post.length with
    | [] => simp [h] at this
    | [y] => exact ⟨y, rfl⟩
    | _ :: _ :: _ => simp [h] at this
  have hr : ((pre ++ x :: post ++ ex).map rowS).take (0 + 0 + ((pre.length : Int).toNat - 0)) ++ post.map rowS ++ ((pre ++ x :: post ++ ex).map rowS).drop (0 + 0 + ((pre.length : Int).toNat - 0) + (post.map rowS).length) = (pre ++ post ++ y :: ex).map rowS := by
    rw [← List.map_take, ← List.map_drop, ← List.map_append, ← List.map_append]
    congr 1
    have e : pre ++ x :: post ++ ex = pre ++ ((x :: post) ++ ex) := by simp
    rw [e]
    have e1 : 0 + 0 + ((pre.length : Int).toNat - 0) = pre.length := by omega
    rw [e1, List.take_left, List.length_map, ← List.drop_drop, List.drop_left, List.drop_append_of_le_length (by simp), hy]
    simp
  rw [hr]
  refine Or.inr (And.intro rfl (And.intro hnn (And.intro (by omega) (And.intro (by omega) (And.intro ?_ (And.intro ?_ ?_))))))
  · simp
    omega
  · simp
    omega
  refine And.intro ?_ ?_
  · simp
    omega
  have hn' : pre.length + post.length = (pre.length : Int).toNat - 0 + (post.map rowS).length := by simp
  have hr' : (pre ++ post ++ ⟨0, 0⟩ :: ex).map rowS = ((pre ++ post ++ y :: ex).map rowS).take (0 + 0 + (((pre.length : Int).toNat - 0 + (post.map rowS).length : Nat) : Int).toNat) ++ List.replicate (((pre.length + post.length + 1 : Nat) : Int).toNat - (((pre.length : Int).toNat - 0 + (post.map rowS).length : Nat) : Int).toNat) [.int .i64 0, .int .i64 0] ++
      ((pre ++ post ++ y :: ex).map rowS).drop (0 + 0 + (((pre.length : Int).toNat - 0 + (post.map rowS).length : Nat) : Int).toNat + (((pre.length + post.length + 1 : Nat) : Int).toNat - (((pre.length : Int).toNat - 0 + (post.map rowS).length : Nat) : Int).toNat)) := by
    have e1 : (((pre.length : Int).toNat - 0 + (post.map rowS).length : Nat) : Int).toNat = (pre ++ post).length := by
      simp
      omega
    have e2 : ((pre.length + post.length + 1 : Nat) : Int).toNat - (pre ++ post).length = 1 := by simp; omega
    rw [e1, e2, Nat.add_zero, Nat.zero_add, ← List.map_take, ← List.map_drop, List.take_left, ← List.drop_drop, List.drop_left]
    simp
  rw [hn', hr', ← hnn] at h
  exact h

theorem lotPoke (t : Int) (ht : 0 ≤ t ∧ t < n) (hk : ss.length = k) (hn : k < 1000000)
    (h1 : ∀ (pre post : List Slp) (x : Slp), ss = pre ++ x :: post → x.t = t → noT pre t → K (cv .niliface) [] (lotH n (pre.length + post.length) true (pre ++ post) (⟨0, 0⟩ :: ex)))
    (h0 : noT ss t → K (.p (errP 6)) [] (lotH n k nn ss ex)) :
    Does Tryd.prog 66 [cv (.ptr 0 0), i64 t] (lotH n k nn ss ex) K := by
  refine does Tryd.func66 rfl (by decide) ?_
  refine brc_intro (fun h => ?_) (fun _ => ?_)
  · have := of_decide_eq_true h; omega
  refine brc_intro (fun h => ?_) (fun _ => ?_)
  · have := of_decide_eq_true h; omega
  change Does Tryd.prog 71 _ _ _
  refine lotFind t hk (by omega) (fun i x h => ?_) h0
  obtain ⟨hx, hxt, hno⟩ := h
  have hi := (List.getElem?_eq_some_iff.1 hx).1
  have hs : ss = ss.take i ++ x :: ss.drop (i + 1) := by
    conv => lhs; rw [← List.take_append_drop i ss, List.drop_eq_getElem_cons hi]
    rw [(List.getElem?_eq_some_iff.1 hx).2]
  have hno' : noT (ss.take i) t := fun y hy => by
    obtain ⟨j, hj⟩ := List.mem_iff_getElem?.1 hy
    have hji := (List.getElem?_eq_some_iff.1 hj).1
    rw [List.length_take] at hji
    rw [List.getElem?_take_of_lt (by omega)] at hj
    exact hno j y (by omega) hj
  replace h1 := h1 _ _ x hs hxt hno'
  have e1 : (ss.take i).length = i := by simp; omega
  have e2 : k = (ss.take i).length + (ss.drop (i + 1)).length + 1 := by simp; omega
  change Does Tryd.prog 86 _ _ _
  rw [wrap_i64 _ (by omega) (by omega)]
  generalize ss.take i = pre at *
  generalize ss.drop (i + 1) = post at *
  subst hs e1 e2
  refine Does.on 2 [1] _ _ (delSlp (by omega) ?_)
  refine eqx (K := fun r : List Slp => K (cv .niliface) [] [.one [.f (.int .i64 n), .slc 1 0 (pre.length + post.length) none true], .rows false 2 (r.map rowS)]) h1 ?_
  simp

end
end Go.Mac
