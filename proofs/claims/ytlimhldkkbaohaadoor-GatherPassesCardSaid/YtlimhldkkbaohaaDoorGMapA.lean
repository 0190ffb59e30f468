/- Texts that belong together; the first of them: Maps, in plain terms: what is found, what is laid. -/
import Derived.Test.YtlimhldkkbaohaaDoorGBase

/- Maps, in plain terms: what is found, what is laid. -/
section
open Go Go.Proofs Go.Mac
set_option maxRecDepth 100000
namespace Go.Mac

abbrev MapZ := List (List Int × Int × Nat)

theorem mpHas_cons (e : List Int × Int × Nat) (es : MapZ) (k : List Int) : mpHas (e :: es) k = if e.1 = k then true else mpHas es k := by
  rw [mpHas, mpFind]
  split
  · rfl
  · rfl

theorem mpGet_cons (e : List Int × Int × Nat) (es : MapZ) (k : List Int) : mpGet (e :: es) k = if e.1 = k then e.2.1 else mpGet es k := by
  rw [mpGet, mpFind]
  split
  · rfl
  · rfl

theorem mpHas_iff {k : List Int} : ∀ {es : MapZ}, mpHas es k = true ↔ k ∈ es.map (·.1)
  | [] => by simp [mpHas, mpFind]
  | e :: es => by
    rw [mpHas_cons, List.map_cons, List.mem_cons]
    by_cases h : e.1 = k
    · rw [if_pos h]; simp [h]
    · rw [if_neg h, mpHas_iff (es := es)]
      simp [Ne.symm h]

theorem mpHas_not {k : List Int} {es : MapZ} : mpHas es k = false ↔ k ∉ es.map (·.1) := by
  rw [← mpHas_iff]
  cases mpHas es k <;> simp

theorem mpSet_keys (k : List Int) (v : Int) : ∀ es : MapZ, (mpSet k v es).map (·.1) = es.map (·.1)
  | [] => rfl
  | e :: es => by
    rw [mpSet]
    split
    · rename_i h
      rw [List.map_cons, List.map_cons, h]
    · rw [List.map_cons, List.map_cons, mpSet_keys k v es]

theorem mpPut_keys (es : MapZ) (k : List Int) (v : Int) (clk : Nat) : (mpPut es k v clk).map (·.1) = if mpHas es k = true then es.map (·.1) else es.map (·.1) ++ [k] := by
  rw [mpPut]
  split
  · exact mpSet_keys k v es
  · rw [List.map_append]; rfl

theorem mpPut_mem {es : MapZ} {k : List Int} {v : Int} {clk : Nat} {x : List Int} : x ∈ (mpPut es k v clk).map (·.1) ↔ x = k ∨ x ∈ es.map (·.1) := by
  rw [mpPut_keys]
  split
  · rename_i h
    have := mpHas_iff.1 h
    constructor
    · exact .inr
    · rintro (rfl | h)
      · exact this
      · exact h
  · rw [List.mem_append, List.mem_singleton]
    exact Or.comm

theorem mpPut_nodup {es : MapZ} {k : List Int} {v : Int} {clk : Nat} (h : (es.map (·.1)).Nodup) : ((mpPut es k v clk).map (·.1)).Nodup := by
  rw [mpPut_keys]
  split
  · exact h
  · rename_i hh
    rw [List.nodup_append]
    refine ⟨h, by simp, fun a ha b hb e => ?_⟩
    rw [List.mem_singleton.1 hb] at e
    exact hh (mpHas_iff.2 (e ▸ ha))

theorem mpGet_set {k k' : List Int} {v : Int} : ∀ {es : MapZ}, mpHas es k = true → mpGet (mpSet k v es) k' = if k' = k then v else mpGet es k'
  | [], h => by cases h
  | e :: es, h => by
    rw [mpHas_cons] at h
    rw [mpSet]
    by_cases he : e.1 = k
    · rw [if_pos he, mpGet_cons, mpGet_cons]
      dsimp only
      by_cases hk : k' = k
      · rw [if_pos hk, if_pos hk.symm]
      · rw [if_neg hk, if_neg (fun h => hk h.symm), he, if_neg (fun h => hk h.symm)]
    · rw [if_neg he] at h
      rw [if_neg he, mpGet_cons, mpGet_cons, mpGet_set h]
      by_cases hk : k' = k
      · rw [if_pos hk, if_pos hk, hk, if_neg he]
      · rw [if_neg hk, if_neg hk]

theorem mpGet_app {k : List Int} : ∀ {es fs : MapZ}, mpGet (es ++ fs) k = if mpHas es k = true then mpGet es k else mpGet fs k
  | [], fs => rfl
  | e :: es, fs => by
    rw [List.cons_append, mpGet_cons, mpHas_cons, mpGet_cons, mpGet_app (es := es)]
    by_cases h : e.1 = k
    · rw [if_pos h, if_pos h, if_pos rfl, if_pos h]
    · rw [if_neg h, if_neg h, if_neg h]

theorem mpGet_no {k : List Int} {es : MapZ} (h : mpHas es k = false) : mpGet es k = 0 := by
  rw [mpHas] at h
  rw [mpGet]
  cases hf : mpFind k es with
  | none => rfl
  | some p => rw [hf] at h; cases h

/-- What is found behind a laying. -/
theorem mpGet_put (es : MapZ) (k k' : List Int) (v : Int) (clk : Nat) : mpGet (mpPut es k v clk) k' = if k' = k then v else mpGet es k' := by
  rw [mpPut]
  split
  · rename_i h
    exact mpGet_set h
  · rename_i h
    rw [mpGet_app]
    by_cases hk : k' = k
    · subst hk
      rw [if_neg h, if_pos rfl]
      show mpGet [(k', v, clk)] k' = v
      rw [mpGet_cons, if_pos rfl]
    · rw [if_neg hk]
      split
      · rfl
      · rename_i h2
        have e1 : mpGet [(k, v, clk)] k' = 0 := by
          rw [mpGet_cons, if_neg (fun h => hk h.symm)]
          rfl
        rw [e1, mpGet_no (show mpHas es k' = false by simpa using h2)]

theorem mpHas_put (es : MapZ) (k k' : List Int) (v : Int) (clk : Nat) : mpHas (mpPut es k v clk) k' = (decide (k' = k) || mpHas es k') := by
  rw [Bool.eq_iff_iff, mpHas_iff, mpPut_mem, Bool.or_eq_true, decide_eq_true_eq, mpHas_iff]

/-- Keys that are the same are as many. -/
theorem keys_len {l m : List (List Int)} (h1 : l.Nodup) (h2 : m.Nodup) (h : ∀ x, x ∈ l ↔ x ∈ m) : l.length = m.length := by
  exact ((List.perm_ext_iff_of_nodup h1 h2).2 h).length_eq

end Go.Mac
end
