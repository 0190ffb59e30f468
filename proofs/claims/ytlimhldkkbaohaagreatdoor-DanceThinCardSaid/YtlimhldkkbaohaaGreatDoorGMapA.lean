/- Texts that belong together; the first of them: Maps, in plain terms: what is found, what is laid. -/
import Derived.Test.YtlimhldkkbaohaaGreatDoorGBase

/- Maps, in plain terms: what is found, what is laid. -/
section
open Go Go.Proofs Go.Mac
set_option maxRecDepth 100000
namespace Go.Mac

abbrev MapZ := List (List Int × Int × Nat)

theorem mpHas_cons (e : List Int × Int × Nat) (es : MapZ) (k : List Int) : mpHas (e :: es) k = if e.1 = k then true else mpHas es k := by
  rw [mpHas, mpFind]
  split
  · rfl
  · rfl

theorem mpGet_cons (e : List Int × Int × Nat) (es : MapZ) (k : List Int) : mpGet (e :: es) k = if e.1 = k then e.2.1 else mpGet es k := by
  rw [mpGet, mpFind]
  split
  · rfl
  · rfl

theorem mpHas_iff {k : List Int} : ∀ {es : MapZ}, mpHas es k = true ↔ k ∈ es.map (·.1)
  | [] => by simp [mpHas, mpFind]
  | e :: es => by
    rw [mpHas_cons, List.map_cons, List.mem_cons]
    by_cases h : e.1 = k
    · rw [if_pos h]; simp [h]
    · rw [if_neg h, mpHas_iff (es := es)]
      simp [Ne.symm h]

theorem mpHas_not {k : List Int} {es : MapZ} : mpHas es k = false ↔ k ∉ es.map (·.1) := by
  rw [← mpHas_iff]
  cases mpHas es k <;> simp

theorem mpSet_keys (k : List Int) (v : Int) : ∀ es : MapZ, (mpSet k v es).map (·.1) = es.map (·.1)
  | [] => rfl
  | e :: es => by
    rw [mpSet]
    split
    · rename_i h
      rw [List.map_cons, List.map_cons, h]
    · rw [List.map_cons, List.map_cons, mpSet_keys k v es]

theorem mpPut_keys (es : MapZ) (k : List Int) (v : Int) (clk : Nat) : (mpPut es k v clk).map (·.1) = if mpHas es k = true then es.map (·.1) else es.map (·.1) ++ [k] := by
  rw [mpPut]
  split
  · exact mpSet_keys k v es
  · rw [List.map_append]; rfl

theorem mpPut_mem {es : MapZ} {k : List Int} {v : Int} {clk : Nat} {x : List Int} : x ∈ (mpPut es k v clk).map (·.1) ↔ x = k ∨ x ∈ es.map (·.1) := by
  rw [mpPut_keys]
  split
  · rename_i h
    have := mpHas_iff.1 h
    constructor
    · exact .inr
    · rintro (rfl | h)
      · exact this
      · exact h
  · rw [List.mem_append, List.mem_singleton]
    exact Or.comm

theorem mpPut_nodup {es : MapZ} {k : List Int} {v : Int} {clk : Nat} (h : (es.map (·.1)).Nodup) : ((mpPut es k v clk).map (·.1)).Nodup := by
  rw [mpPut_keys]
  split
  · exact h
  · rename_i hh
    rw [List.nodup_append]
    refine ⟨h, by simp, fun a ha b hb e => ?_⟩
    rw [List.mem_singleton.1 hb] at e
    exact hh (mpHas_iff.2 (e ▸ ha))

theorem mpGet_set {k k' : List Int} {v : Int} : ∀ {es : MapZ}, mpHas es k = true → mpGet (mpSet k v es) k' = if k' = k then v else mpGet es k'
  | [], h => by cases h
  | e :: es, h => by
    rw [mpHas_cons] at h
    rw [mpSet]
    by_cases he : e.1 = k
    · rw [if_pos he, mpGet_cons, mpGet_cons]
      dsimp only
      by_cases hk : k' = k
      · rw [if_pos hk, if_pos hk.symm]
      · rw [if_neg hk, if_neg (fun h => hk h.symm), he, if_neg (fun h => hk h.symm)]
    · rw [if_neg he] at h
      rw [if_neg he, mpGet_cons, mpGet_cons, mpGet_set h]
      by_cases hk : k' = k
      · rw [if_pos hk, if_pos hk, hk, if_neg he]
      · rw [if_neg hk, if_neg hk]

theorem mpGet_app {k : List Int} : ∀ {es fs : MapZ}, mpGet (es ++ fs) k = if mpHas es k = true then mpGet es k else mpGet fs k
  | [], fs => rfl
  | e :: es, fs => by
    rw [List.cons_append, mpGet_cons, mpHas_cons, mpGet_cons, mpGet_app (es := es)]
    by_cases h : e.1 = k
    · rw [if_pos h, if_pos h, if_pos rfl, if_pos h]
    · rw [if_neg h, if_neg h, if_neg h]

theorem mpGet_no {k : List Int} {es : MapZ} (h : mpHas es k = false) : mpGet es k = 0 := by
  rw [mpHas] at h
  rw [mpGet]
  cases hf : mpFind k es with
  | none => rfl
  | some p => rw [hf] at h; cases h

/-- What is found behind a laying. -/
theorem mpGet_put (es : MapZ) (k k' : List Int) (v : Int) (clk : Nat) : mpGet (mpPut es k v clk) k' = if k' = k then v else mpGet es k' := by
  rw [mpPut]
  split
  · rename_i h
    exact mpGet_set h
  · rename_i h
    rw [mpGet_app]
    by_cases hk : k' = k
    · subst hk
      rw [if_neg h, if_pos rfl]
      show mpGet [(k', v, clk)] k' = v
      rw [mpGet_cons, if_pos rfl]
    · rw [if_neg hk]
      split
      · rfl
      · rename_i h2
        have e1 : mpGet [(k, v, clk)] k' = 0 := by
          rw [mpGet_cons, if_neg (fun h => hk h.symm)]
          rfl
        rw [e1, mpGet_no (show mpHas es k' = false by simpa using h2)]

theorem mpHas_put (es : MapZ) (k k' : List Int) (v : Int) (clk : Nat) : mpHas (mpPut es k v clk) k' = (decide (k' = k) || mpHas es k') := by
  rw [Bool.eq_iff_iff, mpHas_iff, mpPut_mem, Bool.or_eq_true, decide_eq_true_eq, mpHas_iff]

/-- Keys that are the same are as many. -/
theorem keys_len {l m : List (List Int)} (h1 : l.Nodup) (h2 : m.Nodup) (h : ∀ x, x ∈ l ↔ x ∈ m) : l.length = m.length := by
  exact ((List.perm_ext_iff_of_nodup h1 h2).2 h).length_eq

end Go.Mac
end

/- An entry of a map becomes another one: m[k]++. -/
section
open Go Go.Proofs Go.Mac
set_option maxRecDepth 100000
namespace Go.Mac

structure MapW (es : MapZ) (clk : Nat) : Prop where
  keys : (es.map (·.1)).Nodup
  born : (es.map (·.2.2)).Nodup
  old : ∀ e ∈ es, e.2.2 < clk

theorem MapW.nil : MapW [] 0 := ⟨List.nodup_nil, List.nodup_nil, fun _ h => by cases h⟩

theorem mpFind_mem {k : List Int} : ∀ {es : MapZ}, mpHas es k = true → ∃ e ∈ es, e.1 = k ∧ mpFind k es = some e.2
  | [], h => by cases h
  | e :: es, h => by
    rw [mpHas_cons] at h
    by_cases hk : e.1 = k
    · exact ⟨e, List.mem_cons_self .., hk, by rw [mpFind, if_pos hk]⟩
    · rw [if_neg hk] at h
      obtain ⟨e2, h1, h2, h3⟩ := mpFind_mem h
      exact ⟨e2, List.mem_cons_of_mem _ h1, h2, by rw [mpFind, if_neg hk, h3]⟩

theorem mpGet_ent (es : MapZ) (k k' : List Int) (clk : Nat) : mpGet (mpEnt es k clk) k' = mpGet es k' := by
  rw [mpEnt]
  split
  · rfl
  · rename_i h
    rw [mpGet_app]
    split
    · rfl
    · rename_i h2
      have h2 : mpHas es k' = false := by simpa using h2
      rw [mpGet_no h2, mpGet_cons]
      split
      · rfl
      · rfl

theorem MapW.ent {es : MapZ} {clk : Nat} (h : MapW es clk) (k : List Int) : MapW (mpEnt es k clk) (mpClk es k clk) ∧ ∃ e ∈ mpEnt es k clk, e.1 = k ∧ e.2.2 = mpBorn es k clk := by
  rw [mpEnt, mpClk, mpBorn]
  by_cases hk : mpHas es k = true
  · rw [if_pos hk, if_pos hk]
    obtain ⟨e, h1, h2, h3⟩ := mpFind_mem hk
    refine ⟨h, e, h1, h2, ?_⟩
    rw [h3]
    rfl
  · rw [if_neg hk, if_neg hk]
    have hk : mpHas es k = false := by simpa using hk
    refine ⟨⟨?_, ?_, fun e he => ?_⟩, (k, 0, clk), by simp, rfl, ?_⟩
    · rw [List.map_append]
      refine List.nodup_append.2 ⟨h.keys, List.nodup_cons.2 ⟨by simp, List.nodup_nil⟩, fun a ha b hb => ?_⟩
      have hb : b = k := by simpa using hb
      subst hb
      intro e
      subst e
      exact mpHas_not.1 hk ha
    · rw [List.map_append]
      refine List.nodup_append.2 ⟨h.born, List.nodup_cons.2 ⟨by simp, List.nodup_nil⟩, fun a ha b hb => ?_⟩
      have hb : b = clk := by simpa using hb
      subst hb
      obtain ⟨e, he, rfl⟩ := List.mem_map.1 ha
      have := h.old e he
      omega
    · rcases List.mem_append.1 he with he | he
      · have := h.old e he
        omega
      · simp only [List.mem_singleton] at he
        subst he
        exact Nat.lt_succ_self _
    · have : mpFind k es = none := by
        rw [mpHas] at hk
        cases hf : mpFind k es with
        | none => rfl
        | some x => rw [hf] at hk; cases hk
      rw [this]
      rfl

theorem mpAt_keys (b : Nat) (v : Int) : ∀ es : MapZ, (mpAt b v es).map (·.1) = es.map (·.1) ∧ (mpAt b v es).map (·.2.2) = es.map (·.2.2)
  | [] => ⟨rfl, rfl⟩
  | e :: es => by
    rw [mpAt]
    split
    · rename_i h
      exact ⟨rfl, by rw [List.map_cons, List.map_cons, h]⟩
    · obtain ⟨h1, h2⟩ := mpAt_keys b v es
      exact ⟨by rw [List.map_cons, List.map_cons, h1], by rw [List.map_cons, List.map_cons, h2]⟩

theorem mpGet_at {b : Nat} {v : Int} {k : List Int} : ∀ {es : MapZ}, (es.map (·.1)).Nodup → (es.map (·.2.2)).Nodup → (∃ e ∈ es, e.1 = k ∧ e.2.2 = b) → ∀ k', mpGet (mpAt b v es) k' = if k' = k then v else mpGet es k'
  | [], _, _, ⟨e, he, _⟩, _ => by cases he
  | e0 :: es, h1, h2, ⟨e, he, hk, hb⟩, k' => by
    rw [List.map_cons, List.nodup_cons] at h1 h2
    rw [mpAt]
    by_cases hc : e0.2.2 = b
    · rw [if_pos hc]
      have he0 : e = e0 := by
        rcases List.mem_cons.1 he with h | h
        · exact h
        · exact absurd (List.mem_map.2 ⟨e, h, by rw [hb, hc]⟩) h2.1
      subst he0
      rw [mpGet_cons, mpGet_cons, hk]
      by_cases hkk : k' = k
      · subst hkk
        rw [if_pos rfl, if_pos rfl]
      · rw [if_neg (Ne.symm hkk), if_neg hkk, if_neg (Ne.symm hkk)]
    · rw [if_neg hc]
      have hes : e ∈ es := by
        rcases List.mem_cons.1 he with h | h
        · subst h; exact absurd hb hc
        · exact h
      rw [mpGet_cons, mpGet_cons, mpGet_at h1.2 h2.2 ⟨e, hes, hk, hb⟩ k']
      by_cases hkk : e0.1 = k'
      · rw [if_pos hkk, if_pos hkk, if_neg]
        intro hk2
        exact h1.1 (List.mem_map.2 ⟨e, hes, by rw [hk, hkk, hk2]⟩)
      · rw [if_neg hkk, if_neg hkk]

theorem MapW.inc {es : MapZ} {clk : Nat} (h : MapW es clk) (k : List Int) (v : Int) :
    MapW (mpAt (mpBorn es k clk) v (mpEnt es k clk)) (mpClk es k clk) ∧ (∀ k', mpGet (mpAt (mpBorn es k clk) v (mpEnt es k clk)) k' = if k' = k then v else mpGet es k') ∧
    ((mpEnt es k clk).any fun e => e.2.2 == mpBorn es k clk) = true := by
  obtain ⟨h1, h2⟩ := h.ent k
  obtain ⟨k1, k2⟩ := mpAt_keys (mpBorn es k clk) v (mpEnt es k clk)
  refine ⟨⟨by rw [k1]; exact h1.keys, by rw [k2]; exact h1.born, fun e he => ?_⟩, fun k' => ?_, ?_⟩
  · have : e.2.2 ∈ (mpEnt es k clk).map (·.2.2) := by rw [← k2]; exact List.mem_map.2 ⟨e, he, rfl⟩
    obtain ⟨e2, he2, e3⟩ := List.mem_map.1 this
    have := h1.old e2 he2
    omega
  · rw [mpGet_at h1.keys h1.born h2, mpGet_ent]
  · obtain ⟨e, he, _, hb⟩ := h2
    exact List.any_eq_true.2 ⟨e, he, by simpa using hb⟩

theorem MapW.put {es : MapZ} {clk : Nat} (h : MapW es clk) (k : List Int) (v : Int) : MapW (mpPut es k v clk) (mpClk es k clk) := by
  obtain ⟨h1, _⟩ := h.ent k
  have e1 : (mpPut es k v clk).map (·.1) = (mpEnt es k clk).map (·.1) := by
    rw [mpPut_keys, mpEnt]
    split
    · rfl
    · rw [List.map_append]; rfl
  have set2 : ∀ es : MapZ, (mpSet k v es).map (·.2.2) = es.map (·.2.2) := by
    intro es
    induction es with
    | nil => rfl
    | cons e es ih =>
      rw [mpSet]
      split
      · rfl
      · rw [List.map_cons, List.map_cons, ih]
  have e2 : (mpPut es k v clk).map (·.2.2) = (mpEnt es k clk).map (·.2.2) := by
    rw [mpPut, mpEnt]
    split
    · exact set2 es
    · rw [List.map_append, List.map_append]; rfl
  refine ⟨by rw [e1]; exact h1.keys, by rw [e2]; exact h1.born, fun e he => ?_⟩
  have : e.2.2 ∈ (mpEnt es k clk).map (·.2.2) := by rw [← e2]; exact List.mem_map.2 ⟨e, he, rfl⟩
  obtain ⟨e2, he2, e3⟩ := List.mem_map.1 this
  have := h1.old e2 he2
  omega

end Go.Mac
end
