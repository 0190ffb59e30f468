/- An entry of a map becomes another one: m[k]++. -/
import Derived.Test.YtlimhldkkbaohaaDoorQMaps
open Go Go.Proofs Go.Mac
set_option maxRecDepth 100000
namespace Go.Mac

structure MapW (es : MapZ) (clk : Nat) : Prop where
  keys : (es.map (·.1)).Nodup
  born : (es.map (·.2.2)).Nodup
  old : ∀ e ∈ es, e.2.2 < clk

theorem MapW.nil : MapW [] 0 := ⟨List.nodup_nil, List.nodup_nil, fun _ h => by cases h⟩

theorem mpFind_mem {k : List Int} : ∀ {es : MapZ}, mpHas es k = true → ∃ e ∈ es, e.1 = k ∧ mpFind k es = some e.2
  | [], h => by cases h
  | e :: es, h => by
    rw [mpHas_cons] at h
    by_cases hk : e.1 = k
    · exact ⟨e, List.mem_cons_self .., hk, by rw [mpFind, if_pos hk]⟩
    · rw [if_neg hk] at h
      obtain ⟨e2, h1, h2, h3⟩ := mpFind_mem h
      exact ⟨e2, List.mem_cons_of_mem _ h1, h2, by rw [mpFind, if_neg hk, h3]⟩

theorem mpGet_ent (es : MapZ) (k k' : List Int) (clk : Nat) : mpGet (mpEnt es k clk) k' = mpGet es k' := by
  rw [mpEnt]
  split
  · rfl
  · rename_i h
    rw [mpGet_app]
    split
    · rfl
    · rename_i h2
      have h2 : mpHas es k' = false := by simpa using h2
      rw [mpGet_no h2, mpGet_cons]
      split
      · rfl
      · rfl

theorem MapW.ent {es : MapZ} {clk : Nat} (h : MapW es clk) (k : List Int) : MapW (mpEnt es k clk) (mpClk es k clk) ∧ ∃ e ∈ mpEnt es k clk, e.1 = k ∧ e.2.2 = mpBorn es k clk := by
  rw [mpEnt, mpClk, mpBorn]
  by_cases hk : mpHas es k = true
  · rw [if_pos hk, if_pos hk]
    obtain ⟨e, h1, h2, h3⟩ := mpFind_mem hk
    refine ⟨h, e, h1, h2, ?_⟩
    rw [h3]
    rfl
  · rw [if_neg hk, if_neg hk]
    have hk : mpHas es k = false := by simpa using hk
    refine ⟨⟨?_, ?_, fun e he => ?_⟩, (k, 0, clk), by simp, rfl, ?_⟩
    · rw [List.map_append]
      refine List.nodup_append.2 ⟨h.keys, List.nodup_cons.2 ⟨by simp, List.nodup_nil⟩, fun a ha b hb => ?_⟩
      have hb : b = k := by simpa using hb
      subst hb
      intro e
      subst e
      exact mpHas_not.1 hk ha
    · rw [List.map_append]
      refine List.nodup_append.2 ⟨h.born, List.nodup_cons.2 ⟨by simp, List.nodup_nil⟩, fun a ha b hb => ?_⟩
      have hb : b = clk := by simpa using hb
      subst hb
      obtain ⟨e, he, rfl⟩ := List.mem_map.1 ha
      have := h.old e he
      omega
    · rcases List.mem_append.1 he with he | he
      · have := h.old e he
        omega
      · simp only [List.mem_singleton] at he
        subst he
        exact Nat.lt_succ_self _
    · have : mpFind k es = none := by
        rw [mpHas] at hk
        cases hf : mpFind k es with
        | none => rfl
        | some x => rw [hf] at hk; cases hk
      rw [this]
      rfl

theorem mpAt_keys (b : Nat) (v : Int) : ∀ es : MapZ, (mpAt b v es).map (·.1) = es.map (·.1) ∧ (mpAt b v es).map (·.2.2) = es.map (·.2.2)
  | [] => ⟨rfl, rfl⟩
  | e :: es => by
    rw [mpAt]
    split
    · rename_i h
      exact ⟨rfl, by rw [List.map_cons, List.map_cons, h]⟩
    · obtain ⟨h1, h2⟩ := mpAt_keys b v es
      exact ⟨by rw [List.map_cons, List.map_cons, h1], by rw [List.map_cons, List.map_cons, h2]⟩

theorem mpGet_at {b : Nat} {v : Int} {k : List Int} : ∀ {es : MapZ}, (es.map (·.1)).Nodup → (es.map (·.2.2)).Nodup → (∃ e ∈ es, e.1 = k ∧ e.2.2 = b) → ∀ k', mpGet (mpAt b v es) k' = if k' = k then v else mpGet es k'
  | [], _, _, ⟨e, he, _⟩, _ => by cases he
  | e0 :: es, h1, h2, ⟨e, he, hk, hb⟩, k' => by
    rw [List.map_cons, List.nodup_cons] at h1 h2
    rw [mpAt]
    by_cases hc : e0.2.2 = b
    · rw [if_pos hc]
      have he0 : e = e0 := by
        rcases List.mem_cons.1 he with h | h
        · exact h
        · exact absurd (List.mem_map.2 ⟨e, h, by rw [hb, hc]⟩) h2.1
      subst he0
      rw [mpGet_cons, mpGet_cons, hk]
      by_cases hkk : k' = k
      · subst hkk
        rw [if_pos rfl, if_pos rfl]
      · rw [if_neg (Ne.symm hkk), if_neg hkk, if_neg (Ne.symm hkk)]
    · rw [if_neg hc]
      have hes : e ∈ es := by
        rcases List.mem_cons.1 he with h | h
        · subst h; exact absurd hb hc
        · exact h
      rw [mpGet_cons, mpGet_cons, mpGet_at h1.2 h2.2 ⟨e, hes, hk, hb⟩ k']
      by_cases hkk : e0.1 = k'
      · rw [if_pos hkk, if_pos hkk, if_neg]
        intro hk2
        exact h1.1 (List.mem_map.2 ⟨e, hes, by rw [hk, hkk, hk2]⟩)
      · rw [if_neg hkk, if_neg hkk]

theorem MapW.inc {es : MapZ} {clk : Nat} (h : MapW es clk) (k : List Int) (v : Int) :
    MapW (mpAt (mpBorn es k clk) v (mpEnt es k clk)) (mpClk es k clk) ∧ (∀ k', mpGet (mpAt (mpBorn es k clk) v (mpEnt es k clk)) k' = if k' = k then v else mpGet es k') ∧
    ((mpEnt es k clk).any fun e => e.2.2 == mpBorn es k clk) = true := by
  obtain ⟨h1, h2⟩ := h.ent k
  obtain ⟨k1, k2⟩ := mpAt_keys (mpBorn es k clk) v (mpEnt es k clk)
  refine ⟨⟨by rw [k1]; exact h1.keys, by rw [k2]; exact h1.born, fun e he => ?_⟩, fun k' => ?_, ?_⟩
  · have : e.2.2 ∈ (mpEnt es k clk).map (·.2.2) := by rw [← k2]; exact List.mem_map.2 ⟨e, he, rfl⟩
    obtain ⟨e2, he2, e3⟩ := List.mem_map.1 this
    have := h1.old e2 he2
    omega
  · rw [mpGet_at h1.keys h1.born h2, mpGet_ent]
  · obtain ⟨e, he, _, hb⟩ := h2
    exact List.any_eq_true.2 ⟨e, he, by simpa using hb⟩

theorem MapW.put {es : MapZ} {clk : Nat} (h : MapW es clk) (k : List Int) (v : Int) : MapW (mpPut es k v clk) (mpClk es k clk) := by
  obtain ⟨h1, _⟩ := h.ent k
  have e1 : (mpPut es k v clk).map (·.1) = (mpEnt es k clk).map (·.1) := by
    rw [mpPut_keys, mpEnt]
    split
    · rfl
    · rw [List.map_append]; rfl
  have set2 : ∀ es : MapZ, (mpSet k v es).map (·.2.2) = es.map (·.2.2) := by
    intro es
    induction es with
    | nil => rfl
    | cons e es ih =>
      rw [mpSet]
      split
      · rfl
      · rw [List.map_cons, List.map_cons, ih]
  have e2 : (mpPut es k v clk).map (·.2.2) = (mpEnt es k clk).map (·.2.2) := by
    rw [mpPut, mpEnt]
    split
    · exact set2 es
    · rw [List.map_append, List.map_append]; rfl
  refine ⟨by rw [e1]; exact h1.keys, by rw [e2]; exact h1.born, fun e he => ?_⟩
  have : e.2.2 ∈ (mpEnt es k clk).map (·.2.2) := by rw [← e2]; exact List.mem_map.2 ⟨e, he, rfl⟩
  obtain ⟨e2, he2, e3⟩ := List.mem_map.1 this
  have := h1.old e2 he2
  omega

end Go.Mac
