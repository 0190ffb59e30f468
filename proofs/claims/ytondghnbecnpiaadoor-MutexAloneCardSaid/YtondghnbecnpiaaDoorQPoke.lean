/- The machine of threads: a thread woken for nothing, and moves. -/
import Derived.Test.YtondghnbecnpiaaDoorQMachRun
import Derived.Test.YtondghnbecnpiaaDoorQMachGet
open Go Go.Proofs Go.Mac
set_option maxRecDepth 100000
namespace Go.Mac

/-- A thread is woken for nothing. -/
def pokeZ (m : MZ) (t : Int) : MZ := { m with ss := m.ss.filter fun s => s.t != t }
def moveZ (m : MZ) (x : MoveZ) : MZ := if x.pk = true then pokeZ m x.th else (stepZ m x.th).2
def movesZ (m : MZ) (l : List MoveZ) : MZ := l.foldl moveZ m

theorem movesZ_take (m : MZ) (l : List MoveZ) (i : Nat) (x : MoveZ) (h : l[i]? = some x) : movesZ m (l.take (i + 1)) = moveZ (movesZ m (l.take i)) x := by
  rw [movesZ, List.take_add_one, h, List.foldl_append]
  rfl

theorem filter_noT {ss : List Slp} {t : Int} (h : noT ss t) : ss.filter (fun s => s.t != t) = ss := List.filter_eq_self.2 fun s hs => by simpa using h s hs

theorem WF.poke {m : MZ} (hw : WF m) (t : Int) : WF (pokeZ m t) :=
  hw.sleepers (hw.ss.1.sublist (List.filter_sublist.map _)) (fun s hs => hw.ss.2 s (List.mem_filter.1 hs).1) (Nat.le_trans (List.length_filter_le _ _) hw.sl)

theorem WF.move {m : MZ} (hw : WF m) (x : MoveZ) : WF (moveZ m x) := by
  rw [moveZ]
  split
  · exact hw.poke _
  · exact hw.step _

theorem WF.moves {m : MZ} (hw : WF m) (l : List MoveZ) : WF (movesZ m l) := by
  induction l generalizing m with
  | nil => exact hw
  | cons x l ih => exact ih (hw.move x)

section
variable {K : AV → List Nat → List PO → Prop} {m : MZ} {v : VZ}

theorem lotPoke2 {n : Int} {k : Nat} {nn : Bool} {ss ex : List Slp} (t : Int) (hk : ss.length = k) (hn : k < 1000000) (hr : ∀ s ∈ ss, 0 ≤ s.t ∧ s.t < n)
    (h1 : ∀ (pre post : List Slp) (x : Slp), ss = pre ++ x :: post → x.t = t → noT pre t → K (cv .niliface) [] (lotH n (pre.length + post.length) true (pre ++ post) (⟨0, 0⟩ :: ex)))
    (h0 : noT ss t → ∀ e : Int, K (.p (errP e)) [] (lotH n k nn ss ex)) :
    Does Tryd.prog 66 [cv (.ptr 0 0), i64 t] (lotH n k nn ss ex) K := by
  by_cases ht : 0 ≤ t ∧ t < n
  · exact lotPoke t ht hk hn h1 fun h => h0 h 6
  · have hno : noT ss t := fun s hs e => ht (e ▸ hr s hs)
    refine does Tryd.func66 rfl (by decide) ?_
    refine brc_intro (fun h => h0 hno 2) (fun h => ?_)
    have h := of_decide_eq_false h
    refine brc_intro (fun h2 => h0 hno 2) (fun h2 => ?_)
    have h2 := of_decide_eq_false h2
    omega

theorem corePoke (hw : WF m) (hv : okV v) (t : Int) (h0 : ∀ v', okV v' → K (cv .niliface) [] (machH (pokeZ m t) v')) (h1 : ∀ e v', okV v' → K (errC e) [] (machH (pokeZ m t) v')) :
    Does Tryd.prog 41 [cv (.ptr 0 0), i64 t] (machH m v) K := by
  have hps := hw.ps
  have hlen := hw.len_ss
  refine does Tryd.func41 rfl (by decide) ?_
  change Does Tryd.prog 66 _ _ _
  refine Does.on 9 [5, 6] _ _ (lotPoke2 (n := m.ps.length) (k := m.ss.length) (nn := v.nl) (ss := m.ss) (ex := v.ex) t rfl (by omega) (fun s hs => by have := hw.ss.2 s hs; omega) (fun pre post x hs hx hno => ?_) fun hno e => ?_)
  · have hnd := hw.ss.1
    have hpost : noT post t := fun s hs' e => by
      rw [hs, List.map_append, List.map_cons, List.nodup_append, List.nodup_cons] at hnd
      exact hnd.2.1.1 (List.mem_map.2 ⟨s, hs', e.trans hx.symm⟩)
    have e : m.ss.filter (fun s => s.t != t) = pre ++ post := by
      rw [hs, List.filter_append, List.filter_cons_of_neg (by simp [hx]), filter_noT hno, filter_noT hpost]
    have := h0 { v with nl := true, ex := ⟨0, 0⟩ :: v.ex } (fun _ => rfl)
    rw [pokeZ, e] at this
    rw [← List.length_append]
    exact this
  · have := h1 e v hv
    rw [pokeZ, filter_noT hno] at this
    exact this

theorem coreCellsL (hw : WF m) {l : List Int} (hl : m.ws = l) (h : K (cv (.slc 9 0 l.length none false)) [] (machH m v ++ [.rows false 1 (l.map rowU)])) :
    Does Tryd.prog 27 [cv (.ptr 0 0)] (machH m v) K := by
  subst hl
  have hnc := hw.nc
  refine coreCells hnc (by have := hw.ws.1; omega) ?_
  rw [← hnc]
  exact h

end
end Go.Mac
