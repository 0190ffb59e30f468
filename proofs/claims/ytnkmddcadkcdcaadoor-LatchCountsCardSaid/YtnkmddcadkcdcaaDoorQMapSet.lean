/- Maps to true: sets, in plain terms. -/
import Derived.Test.YtnkmddcadkcdcaaDoorQMaps
open Go Go.Proofs Go.Mac
set_option maxRecDepth 100000
namespace Go.Mac

/-- A map has just these keys, in this order, and is true at them. -/
def MSet (es : MapZ) (L : List Int) : Prop := es.map (·.1) = L.map (fun x => [x]) ∧ ∀ e ∈ es, e.2.1 = 1

theorem MSet.nil : MSet [] [] := ⟨rfl, fun e h => by cases h⟩

theorem MSet.len {es : MapZ} {L : List Int} (h : MSet es L) : es.length = L.length := by
  have := congrArg List.length h.1
  simpa using this

theorem MSet.has {es : MapZ} {L : List Int} (h : MSet es L) (t : Int) : mpHas es [t] = true ↔ t ∈ L := by
  rw [mpHas_iff, h.1]
  simp

theorem MSet.get {es : MapZ} {L : List Int} (h : MSet es L) (t : Int) : mpGet es [t] = if t ∈ L then 1 else 0 := by
  by_cases ht : t ∈ L
  · rw [if_pos ht]
    have hh := (h.has t).2 ht
    rw [mpHas, Option.isSome_iff_exists] at hh
    obtain ⟨x, hx⟩ := hh
    have : ∀ es : MapZ, (∀ e ∈ es, e.2.1 = 1) → mpFind [t] es = some x → x.1 = 1 := fun es => by
      induction es with
      | nil => intro _ h; cases h
      | cons e es ih =>
        intro ha hf
        rw [mpFind] at hf
        split at hf
        · obtain rfl := Option.some.inj hf
          exact ha e (by simp)
        · exact ih (fun e he => ha e (by simp [he])) hf
    rw [mpGet, hx]
    exact this es h.2 hx
  · rw [if_neg ht]
    exact mpGet_no (by
      cases hh : mpHas es [t] with
      | false => rfl
      | true => exact absurd ((h.has t).1 hh) ht)

theorem MSet.put {es : MapZ} {L : List Int} (h : MSet es L) {t : Int} (ht : t ∉ L) (clk : Nat) : MSet (mpPut es [t] 1 clk) (L ++ [t]) := by
  have hh : ¬ mpHas es [t] = true := fun e => ht ((h.has t).1 e)
  refine ⟨?_, fun e he => ?_⟩
  · rw [mpPut_keys, if_neg hh, h.1, List.map_append]; rfl
  · rw [mpPut, if_neg hh] at he
    rcases List.mem_append.1 he with he | he
    · exact h.2 e he
    · rw [List.mem_singleton.1 he]

theorem MSet.put_in {es : MapZ} {L : List Int} (h : MSet es L) {t : Int} (ht : t ∈ L) (clk : Nat) : MSet (mpPut es [t] 1 clk) L := by
  have hh : mpHas es [t] = true := (h.has t).2 ht
  refine ⟨?_, fun e he => ?_⟩
  · rw [mpPut_keys, if_pos hh, h.1]
  · rw [mpPut, if_pos hh] at he
    have : ∀ es : MapZ, (∀ e ∈ es, e.2.1 = 1) → ∀ e ∈ mpSet [t] 1 es, e.2.1 = 1 := fun es => by
      induction es with
      | nil => intro _ e h; cases h
      | cons a es ih =>
        intro ha e he
        rw [mpSet] at he
        split at he
        · rcases List.mem_cons.1 he with rfl | he
          · rfl
          · exact ha e (by simp [he])
        · rcases List.mem_cons.1 he with rfl | he
          · exact ha e (by simp)
          · exact ih (fun e he => ha e (by simp [he])) e he
    exact this es h.2 e he

theorem MSet.del {es : MapZ} {L : List Int} (h : MSet es L) (t : Int) : MSet (mpDel [t] es) (L.erase t) := by
  obtain ⟨h1, h2⟩ := h
  refine ⟨?_, ?_⟩
  · clear h2
    induction es generalizing L with
    | nil =>
      cases L with
      | nil => rfl
      | cons a L => cases h1
    | cons e es ih =>
      cases L with
      | nil => cases h1
      | cons a L =>
        rw [List.map_cons, List.map_cons, List.cons.injEq] at h1
        rw [mpDel, List.erase_cons]
        by_cases ht : a = t
        · rw [if_pos (by rw [h1.1, ht]), if_pos (by simpa using ht)]
          exact h1.2
        · rw [if_neg (by rw [h1.1]; simpa using ht), if_neg (by simpa using ht), List.map_cons, List.map_cons, ih h1.2, h1.1]
  · have : ∀ es : MapZ, (∀ e ∈ es, e.2.1 = 1) → ∀ e ∈ mpDel [t] es, e.2.1 = 1 := fun es => by
      induction es with
      | nil => intro _ e h; cases h
      | cons a es ih =>
        intro ha e he
        rw [mpDel] at he
        split at he
        · exact ha e (by simp [he])
        · rcases List.mem_cons.1 he with rfl | he
          · exact ha e (by simp)
          · exact ih (fun e he => ha e (by simp [he])) e he
    exact this es h2

end Go.Mac
