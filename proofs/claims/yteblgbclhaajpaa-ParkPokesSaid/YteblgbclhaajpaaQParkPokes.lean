/- Lots: who is woken for nothing is gone. -/
import Derived.Test.YteblgbclhaajpaaQParkFirst
import Derived.Test.YteblgbclhaajpaaQDelInts
open Go Go.Proofs Go.Mac
set_option maxRecDepth 100000
namespace Go.Mac

theorem bedL_cell (l : List NodZ) : ∀ x ∈ bedL l, 0 ≤ x.c ∧ x.c < 4 := by
  have : ∀ (l : List NodZ) (ss : List Slp), (∀ x ∈ ss, 0 ≤ x.c ∧ x.c < 4) → ∀ x ∈ l.foldl bedStep ss, 0 ≤ x.c ∧ x.c < 4 := by
    intro l
    induction l with
    | nil => exact fun ss h => h
    | cons x l ih =>
      refine fun ss h => ih _ fun y hy => ?_
      unfold bedStep at hy
      split at hy
      · exact h y (List.eraseP_subset hy)
      split at hy
      · exact h y hy
      · rcases List.mem_append.1 hy with hy | hy
        · exact h y hy
        · simp at hy
          subst hy
          exact pickZ_lt x.c (by decide)
  exact this l [] (by simp)

theorem atL_append (c : Int) (xs ys : List Slp) : atL c (xs ++ ys) = atL c xs ++ atL c ys := by
  simp [atL]

theorem atL_no {c t : Int} {ss : List Slp} (h : noT ss t) : noI t (atL c ss) = atL c ss := by
  refine List.filter_eq_self.2 fun y hy => ?_
  obtain ⟨x, hx, rfl⟩ := List.mem_map.1 hy
  have := h x (List.mem_filter.1 hx).1
  simpa using this

theorem once_split {pre post : List Slp} {x : Slp} (h : onceL (pre ++ x :: post)) : noT post x.t := by
  unfold onceL at h
  rw [List.map_append, List.map_cons, List.nodup_append, List.nodup_cons] at h
  intro y hy e
  exact h.2.1.1 (List.mem_map.2 ⟨y, hy, e⟩)

theorem parkPokes (l : List NodZ) (t : Int) (_ht : -9223372036854775808 ≤ t ∧ t ≤ 9223372036854775807) :
    Does Try.prog 11 [cv (.slc 0 0 l.length none false), i64 t] [.rows true 3 (l.map rowNodZ)] fun v _ _ => v = bl true := by
  refine does Try.func11 rfl (by decide) ?_
  change Does Try.prog 19 _ _ _
  refine Does.alone 2 (asleep ?_)
  refine brc_intro (fun _ => fin rfl) (fun h => ?_)
  have hl : l.length ≤ 60 := by have := of_decide_eq_false h; omega
  change Does Try.prog 20 _ _ _
  refine Does.on 2 [0] _ _ (bed l hl fun nn ex hex => ?_)
  have hb := bedL_len l l.length
  have hon := onceL_bed l
  have hce := bedL_cell l
  rw [List.take_length] at hb
  generalize bedL l = ss at *
  change Does Try.prog 18 _ _ _
  refine Does.alone 4 (pick t 16 (by decide) ?_)
  have ht := pickZ_lt t (n := 16) (by decide)
  generalize pickZ t 16 = t at *
  change Does Try.prog 26 _ _ _
  refine Does.on 4 [2, 3] _ _ (lotCell (n := 16) (k := ss.length) (nn := nn) (ss := ss) (ex := ex) t rfl (by omega) (fun i x hx => ?_) fun hno => ?_)
  · have hxs : x ∈ ss := List.mem_iff_getElem?.2 ⟨i, hx.1⟩
    have hc := hce x hxs
    refine brc_intro (fun h => ?_) (fun _ => ?_)
    · have := of_decide_eq_true h; omega
    have hla := atL_le x.c ss
    change Does Try.prog 21 _ _ _
    refine Does.on 4 [2, 3] _ _ (lotAt (n := 16) (k := ss.length) (nn := nn) (ss := ss) (ex := ex) x.c rfl (by omega) ?_)
    change Does Try.prog 27 _ _ _
    refine Does.on 5 [2, 3] _ _ (lotPoke (n := 16) (k := ss.length) (nn := nn) (ss := ss) (ex := ex) t ht rfl (by omega) (fun pre post y hs hy hno => ?_) fun hno => absurd hno hx.not)
    have hla2 := atL_le x.c (pre ++ post)
    have hl2 : (pre ++ post).length + 1 = ss.length := by rw [hs]; simp; omega
    have e2 : pre.length + post.length = (pre ++ post).length := by simp
    rw [e2]
    change Does Try.prog 21 _ _ _
    refine Does.on 5 [2, 3] _ _ (lotAt (n := 16) (k := (pre ++ post).length) (nn := true) (ss := pre ++ post) (ex := ⟨0, 0⟩ :: ex) x.c rfl (by omega) ?_)
    change Does Try.prog 29 _ _ _
    have hpos : 0 < (atL x.c ss).length := by
      refine List.length_pos_of_mem (a := x.t) (List.mem_map.2 ⟨x, List.mem_filter.2 ⟨hxs, by simp⟩, rfl⟩)
    refine Does.nil0 (fun h => by omega) ?_
    refine Does.on 6 [4] _ _ (cloneInts (xs := atL x.c ss) (by omega) ?_)
    change Does Try.prog 28 _ _ _
    refine Does.on 7 [6, 1] _ _ (deleteInts (xs := atL x.c ss) t rfl (by omega) fun n' e' => ?_)
    change Does Try.prog 23 _ _ _
    refine Does.on 7 [5, 6] _ _ (equalPart (all1 := atL x.c (pre ++ post)) (all2 := noI t (atL x.c ss) ++ e') (o1 := 0) (o2 := 0) (n1 := (atL x.c (pre ++ post)).length) (n2 := (noI t (atL x.c ss)).length) (nn1 := false) (nn2 := n')
      (atL x.c (pre ++ post)) (noI t (atL x.c ss)) (by omega) rfl rfl (by simp) (by simp) (fun _ => fin rfl) fun h => absurd ?_ h)
    rw [hs] at hon
    have hp := once_split hon
    rw [hy] at hp
    rw [hs, atL_append, atL_append, atL_cons, noI, List.filter_append, List.filter_append]
    have h1 := atL_no (c := x.c) hno
    have h2 := atL_no (c := x.c) hp
    rw [noI] at h1 h2
    rw [h1, h2, hy]
    split <;> simp
  · change Does Try.prog 27 _ _ _
    refine Does.on 4 [2, 3] _ _ (lotPoke (n := 16) (k := ss.length) (nn := nn) (ss := ss) (ex := ex) t ht rfl (by omega) (fun pre post y hs hy hno' => ?_) fun _ => fin rfl)
    refine absurd hy (hno y ?_)
    rw [hs]
    simp

end Go.Mac
