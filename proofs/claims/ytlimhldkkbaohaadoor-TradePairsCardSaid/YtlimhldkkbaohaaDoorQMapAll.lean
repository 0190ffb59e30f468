/- Maps all of whose entries are right, and going through them. -/
import Derived.Test.YtlimhldkkbaohaaDoorQMaps
open Go Go.Proofs Go.Mac
set_option maxRecDepth 100000
namespace Go.Mac

/-- All entries are right, and none came later than now. -/
def MapP (P : Int → Int → Prop) (es : MapZ) (clk : Nat) : Prop := ∀ e ∈ es, e.2.2 < clk ∧ ∃ x, e.1 = [x] ∧ P x e.2.1

theorem MapP.nil {P : Int → Int → Prop} : MapP P [] 0 := fun e h => by cases h

theorem mpSet_mem {k : List Int} {v : Int} : ∀ {es : MapZ} {e : List Int × Int × Nat}, e ∈ mpSet k v es → e ∈ es ∨ ∃ b, e = (k, v, b) ∧ ∃ u, (k, u, b) ∈ es
  | [], _, h => by cases h
  | a :: es, e, h => by
    rw [mpSet] at h
    split at h
    · rename_i hk
      rcases List.mem_cons.1 h with rfl | h
      · refine .inr ⟨a.2.2, rfl, a.2.1, ?_⟩
        rw [← hk]
        simp
      · exact .inl (List.mem_cons_of_mem _ h)
    · rcases List.mem_cons.1 h with rfl | h
      · exact .inl (by simp)
      · rcases mpSet_mem h with h | ⟨b, h1, u, h2⟩
        · exact .inl (List.mem_cons_of_mem _ h)
        · exact .inr ⟨b, h1, u, List.mem_cons_of_mem _ h2⟩

theorem MapP.put {P : Int → Int → Prop} {es : MapZ} {clk : Nat} (h : MapP P es clk) {x v : Int} (hP : P x v) : MapP P (mpPut es [x] v clk) (mpClk es [x] clk) := by
  intro e he
  rw [mpPut] at he
  rw [mpClk]
  by_cases hh : mpHas es [x] = true
  · rw [if_pos hh] at he ⊢
    rcases mpSet_mem he with he | ⟨b, rfl, u, hu⟩
    · exact h e he
    · exact ⟨(h _ hu).1, x, rfl, hP⟩
  · rw [if_neg hh] at he ⊢
    rcases List.mem_append.1 he with he | he
    · have := h e he
      exact ⟨by omega, this.2⟩
    · rw [List.mem_singleton.1 he]
      exact ⟨by show clk < clk + 1; omega, x, rfl, hP⟩

theorem MapP.get {P : Int → Int → Prop} {es : MapZ} {clk : Nat} (h : MapP P es clk) {y : Int} (hh : mpHas es [y] = true) : P y (mpGet es [y]) := by
  rw [mpHas, Option.isSome_iff_exists] at hh
  obtain ⟨p, hp⟩ := hh
  have : ∀ es : MapZ, (∀ e ∈ es, ∃ x, e.1 = [x] ∧ P x e.2.1) → mpFind [y] es = some p → P y p.1 := fun es => by
    induction es with
    | nil => intro _ h; cases h
    | cons e es ih =>
      intro ha hf
      rw [mpFind] at hf
      split at hf
      · rename_i hk
        obtain rfl := Option.some.inj hf
        obtain ⟨x, h1, h2⟩ := ha e (by simp)
        rw [hk] at h1
        obtain rfl : y = x := by simpa using h1
        exact h2
      · exact ih (fun e he => ha e (by simp [he])) hf
  rw [mpGet, hp]
  exact this es (fun e he => (h e he).2) hp

/-- One that was not seen: what is there of its time, and fewer are left behind it. -/
theorem left_one {es : MapZ} {seen : List Nat} {e : List Int × Int × Nat} (he : e ∈ leftE es seen) : (∃ e', es.find? (fun e' => e'.2.2 == e.2.2) = some e' ∧ e' ∈ es) ∧ (leftE es (seen ++ [e.2.2])).length < (leftE es seen).length := by
  have hm : e ∈ es := (List.mem_filter.1 he).1
  constructor
  · cases hf : es.find? (fun e' => e'.2.2 == e.2.2) with
    | none =>
      have := List.find?_eq_none.1 hf e hm
      simp at this
    | some e' => exact ⟨e', rfl, List.mem_of_find?_eq_some hf⟩
  · have h1 : leftE es (seen ++ [e.2.2]) = (leftE es seen).filter fun e' => e'.2.2 != e.2.2 := by
      rw [leftE, leftE, List.filter_filter]
      refine List.filter_congr fun x _ => ?_
      simp only [List.contains_eq_mem, List.mem_append, List.mem_singleton]
      by_cases h1 : x.2.2 ∈ seen <;> by_cases h2 : x.2.2 = e.2.2 <;> simp [h1, h2]
    rw [h1]
    refine Nat.lt_of_le_of_ne (List.length_filter_le _ _) fun hl => ?_
    have := (List.length_filter_eq_length_iff.1 hl) e he
    simp at this

end Go.Mac
