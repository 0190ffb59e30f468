/- Lots: who came first is woken first. -/
import Derived.Test.YtnkmddcadkcdcaaQParkLaw
import Derived.Test.YtnkmddcadkcdcaaQEqPart
open Go Go.Proofs Go.Mac
set_option maxRecDepth 100000
namespace Go.Mac

/-! ### What is said of lots -/

theorem wakeL_out (c n : Int) : ∀ (ss : List Slp) (m : Nat), (wakeL c n m ss).1 = (atL c ss).take (n - m).toNat
  | [], m => by simp [wakeL, atL]
  | x :: ss, m => by
    rw [wakeL, atL_cons]
    by_cases hx : x.c = c
    · rw [if_pos hx]
      by_cases hm : (m : Int) < n
      · rw [if_pos ⟨hx, hm⟩]
        have : (n - m).toNat = (n - (m + 1 : Nat)).toNat + 1 := by omega
        rw [this]
        show x.t :: (wakeL c n (m + 1) ss).1 = x.t :: _
        rw [wakeL_out c n ss (m + 1)]
        rfl
      · rw [if_neg fun h => hm h.2]
        show (wakeL c n m ss).1 = _
        rw [wakeL_out c n ss m]
        have : (n - m).toNat = 0 := by omega
        rw [this]
        simp
    · rw [if_neg hx, if_neg fun h => hx h.1]
      exact wakeL_out c n ss m

theorem wakeL_kept (c n : Int) : ∀ (ss : List Slp) (m : Nat), atL c (wakeL c n m ss).2 = (atL c ss).drop (n - m).toNat
  | [], m => by simp [wakeL, atL]
  | x :: ss, m => by
    rw [wakeL, atL_cons]
    by_cases hx : x.c = c
    · rw [if_pos hx]
      by_cases hm : (m : Int) < n
      · rw [if_pos ⟨hx, hm⟩]
        have : (n - m).toNat = (n - (m + 1 : Nat)).toNat + 1 := by omega
        rw [this]
        show atL c (wakeL c n (m + 1) ss).2 = _
        rw [wakeL_kept c n ss (m + 1)]
        rfl
      · rw [if_neg fun h => hm h.2]
        show atL c (x :: (wakeL c n m ss).2) = _
        rw [atL_cons, if_pos hx, wakeL_kept c n ss m]
        have : (n - m).toNat = 0 := by omega
        rw [this]
        simp
    · rw [if_neg hx, if_neg fun h => hx h.1]
      show atL c (x :: (wakeL c n m ss).2) = _
      rw [atL_cons, if_neg hx, wakeL_kept c n ss m]
      rfl

theorem wakeL_perm (c n : Int) : ∀ (ss : List Slp) (m : Nat), ((wakeL c n m ss).1 ++ (wakeL c n m ss).2.map (·.t)).Perm (ss.map (·.t))
  | [], m => .refl _
  | x :: ss, m => by
    rw [wakeL]
    split
    · exact (wakeL_perm c n ss (m + 1)).cons x.t
    · exact List.perm_middle.trans ((wakeL_perm c n ss m).cons x.t)

/-- Nobody sleeps twice. -/
def onceL (ss : List Slp) : Prop := (ss.map (·.t)).Nodup

theorem onceL_out {c n : Int} {ss : List Slp} {m : Nat} (h : onceL ss) {t : Int} (ht : t ∈ (wakeL c n m ss).1) : noT (wakeL c n m ss).2 t := by
  have := (wakeL_perm c n ss m).nodup_iff.2 h
  rw [List.nodup_append] at this
  intro x hx e
  exact this.2.2 t ht x.t (List.mem_map_of_mem hx) e.symm

theorem onceL_step {ss : List Slp} (h : onceL ss) (x : NodZ) : onceL (bedStep ss x) := by
  unfold bedStep
  split
  · exact h.sublist (List.eraseP_sublist.map _)
  split
  · exact h
  · rename_i hn
    have hn : (ss.any fun y => y.t == pickZ x.t 16) = false := by simpa using hn
    rw [List.any_eq_false] at hn
    unfold onceL
    rw [List.map_append, List.nodup_append]
    refine ⟨h, by simp, fun a ha b hb => ?_⟩
    obtain ⟨y, hy, rfl⟩ := List.mem_map.1 ha
    have := hn y hy
    simp at hb this
    rw [hb]
    exact this

theorem onceL_bed (l : List NodZ) : onceL (bedL l) := by
  have : ∀ (l : List NodZ) (ss : List Slp), onceL ss → onceL (l.foldl bedStep ss) := by
    intro l
    induction l with
    | nil => exact fun ss h => h
    | cons x l ih => exact fun ss h => ih _ (onceL_step h x)
  exact this l [] (by simp [onceL])

theorem hasT_of {ss : List Slp} {t : Int} (h : ¬ noT ss t) : ∃ i x, hasT ss t i x := by
  induction ss with
  | nil => exact absurd (by simp [noT]) h
  | cons y ss ih =>
    by_cases hy : y.t = t
    · exact ⟨0, y, rfl, hy, fun j z hj => absurd hj (by omega)⟩
    · obtain ⟨i, x, h1, h2, h3⟩ := ih fun h' => h fun z hz => by
        rcases List.mem_cons.1 hz with rfl | hz
        · exact hy
        · exact h' z hz
      refine ⟨i + 1, x, h1, h2, fun j z hj hz => ?_⟩
      cases j with
      | zero => cases hz; exact hy
      | succ j => exact h3 j z (by omega) hz

section
variable {K : AV → List Nat → List PO → Prop} {n : Int} {k : Nat} {nn : Bool} {ss ex : List Slp}

abbrev firstH (out : List Int) (n : Int) (k : Nat) (nn : Bool) (ss ex : List Slp) : List PO := [.rows false 1 (out.map rowZ), .one [.ptr 2 0], .one [.f (.int .i64 n), .slc 3 0 k none nn], .rows false 2 ((ss ++ ex).map rowS)]

end

end Go.Mac
