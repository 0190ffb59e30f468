/- What one step leaves alone: the other threads; how many steps there were. -/
import Derived.Test.YtdcpdfgpdomolaaGreatDoorGMachB
import Derived.Test.YtdcpdfgpdomolaaGreatDoorQRunApp
open Go Go.Proofs Go.Mac
set_option maxRecDepth 100000
namespace Go.Mac

/-- Another thread: what it is, and where it sleeps: there still, or nowhere. -/
def ApartZ (m m' : MZ) (o : Int) : Prop := m'.ts.length = m.ts.length ∧ (0 ≤ o → thZ m' o.toNat = thZ m o.toNat) ∧ (cellZ m' o = cellZ m o ∨ cellZ m' o = -1)

theorem ApartZ.of {m m' : MZ} {o : Int} (h1 : m'.ts = m.ts) (h2 : m'.ss = m.ss) : ApartZ m m' o := ⟨by rw [h1], fun _ => by rw [thZ, h1, thZ], .inl (by rw [cellZ, h2, cellZ])⟩
theorem ApartZ.trans {a b c : MZ} {o : Int} (h1 : ApartZ a b o) (h2 : ApartZ b c o) : ApartZ a c o := by
  refine ⟨h2.1.trans h1.1, fun h => (h2.2.1 h).trans (h1.2.1 h), ?_⟩
  rcases h2.2.2 with h | h
  · rw [h]; exact h1.2.2
  · exact .inr h

theorem ApartZ.th {m m' : MZ} {o : Int} {t : Nat} {x : ThZ} (hne : o ≠ t) (h1 : m'.ts = m.ts.set t x) (h2 : m'.ss = m.ss) : ApartZ m m' o := by
  refine ⟨by rw [h1]; simp, fun h => ?_, .inl (by rw [cellZ, h2, cellZ])⟩
  rw [thZ, h1, thZ, List.getD_eq_getElem?_getD, List.getD_eq_getElem?_getD, List.getElem?_set_ne (by omega)]

theorem find_sub {l l' : List Slp} (hs : l'.Sublist l) (hn : (l.map (·.t)).Nodup) (o : Int) : l'.find? (fun s => s.t == o) = l.find? (fun s => s.t == o) ∨ l'.find? (fun s => s.t == o) = none := by
  cases h : l'.find? (fun s => s.t == o) with
  | none => exact .inr rfl
  | some s =>
    left
    have hm := hs.subset (List.mem_of_find?_eq_some h)
    have ht : s.t = o := by simpa using List.find?_some h
    cases h2 : l.find? (fun s => s.t == o) with
    | none => exact absurd ht (by simpa using List.find?_eq_none.1 h2 s hm)
    | some u =>
      have hm2 := List.mem_of_find?_eq_some h2
      have hu : u.t = o := by simpa using List.find?_some h2
      obtain ⟨i, hi⟩ := List.mem_iff_getElem?.1 hm
      obtain ⟨j, hj⟩ := List.mem_iff_getElem?.1 hm2
      have hi' : (l.map (·.t))[i]? = some o := by rw [List.getElem?_map, hi, Option.map_some, ht]
      have hj' : (l.map (·.t))[j]? = some o := by rw [List.getElem?_map, hj, Option.map_some, hu]
      have hlt : i < (l.map (·.t)).length := (List.getElem?_eq_some_iff.1 hi').1
      have : i = j := (List.getElem?_inj hlt hn).1 (hi'.trans hj'.symm)
      subst this
      exact (hj.symm.trans hi).symm ▸ rfl

theorem apart_far {m m' : MZ} {o : Int} {t : Nat} {x : ThZ} {i : InsZ} (hn : (m.ss.map (·.t)).Nodup) (hne : o ≠ t) (h : farZ m t x i = some m') : ApartZ m m' o := by
  unfold farZ at h
  split at h
  · obtain rfl := Option.some.inj h
    exact ApartZ.th hne rfl rfl
  split at h
  · obtain rfl := Option.some.inj h
    exact ApartZ.th hne rfl rfl
  split at h
  · split at h
    all_goals
      obtain rfl := Option.some.inj h
      exact ApartZ.th hne rfl rfl
  split at h
  · obtain rfl := Option.some.inj h
    split
    · refine ⟨rfl, fun _ => rfl, .inl ?_⟩
      have e : ([⟨t, i.a⟩] : List Slp).find? (fun s => s.t == o) = none := by
        rw [List.find?_eq_none]
        intro s hs
        obtain rfl := List.mem_singleton.1 hs
        simpa using fun h : (t : Int) = o => hne h.symm
      rw [cellZ, cellZ, List.find?_append, e, Option.or_none]
    · exact ApartZ.of rfl rfl
  split at h
  · obtain rfl := Option.some.inj h
    exact ApartZ.of rfl rfl
  split at h
  · cases h
  split at h
  · split at h
    · obtain rfl := Option.some.inj h
      refine ⟨rfl, fun _ => rfl, ?_⟩
      rename_i c _ _ _
      rcases find_sub (wakeL_mem c i.b m.ss 0) hn o with e | e
      · left
        rw [cellZ, cellZ, e]
      · right
        rw [cellZ, e]
        rfl
    · obtain rfl := Option.some.inj h
      exact ApartZ.of rfl rfl
  · cases h

theorem apart_step {m : MZ} (hw : WF m) {t o : Int} (hne : o ≠ t) : ApartZ m (stepZ m t).2 o := by
  unfold stepZ
  split
  · exact ApartZ.of rfl rfl
  rename_i h0
  repeat (split; · exact ApartZ.of rfl rfl)
  obtain ⟨k, rfl⟩ := Int.eq_ofNat_of_zero_le (show 0 ≤ t by omega)
  rw [Int.toNat_natCast, goZ]
  have hA : ApartZ m (onZ m k) o := ApartZ.th hne rfl rfl
  rw [doZ]
  split
  · exact hA.trans (ApartZ.th hne rfl rfl)
  · split
    · rename_i m' hf
      exact hA.trans (apart_far hw.ss.1 hne hf)
    · exact hA.trans (ApartZ.th hne rfl rfl)

theorem step_case {m : MZ} (hw : WF m) (t : Int) :
    (((stepZ m t).1 = 0 ∨ (stepZ m t).1 = 13) ∧ (stepZ m t).2.k = m.k + 1 ∧ canZ m t = true ∧ m.k < 20000) ∨
    ((stepZ m t).1 ≠ 0 ∧ (stepZ m t).1 ≠ 13 ∧ (stepZ m t).2.k = m.k ∧ (canZ m t = false ∨ ¬ m.k < 20000)) := by
  have hk := hw.k
  unfold stepZ
  split
  · rename_i h
    exact .inr ⟨by simp, by simp, rfl, .inl (by rw [canZ, decide_eq_false (by omega)]; rfl)⟩
  rename_i h
  split
  · rename_i h
    exact .inr ⟨by simp, by simp, rfl, .inl (by rw [canZ, h]; simp)⟩
  rename_i hd
  split
  · rename_i h
    exact .inr ⟨by simp, by simp, rfl, .inl (by rw [canZ, h]; simp)⟩
  rename_i hs
  split
  · rename_i h
    exact .inr ⟨by simp, by simp, rfl, .inr (by omega)⟩
  rename_i hk2
  refine .inl ⟨?_, ?_, ?_, by omega⟩
  · rw [goZ, doZ]
    split
    · exact .inl rfl
    split
    · exact .inl rfl
    · exact .inr rfl
  · rw [goZ, doZ]
    split
    · rfl
    split
    · rename_i m' hf
      have : ∀ (m m' : MZ) (t : Nat) (x : ThZ) (i : InsZ), farZ m t x i = some m' → m'.k = m.k := by
        intro m m' t x i hf
        unfold farZ at hf
        repeat' (split at hf)
        all_goals first | (obtain rfl := Option.some.inj hf; first | rfl | (split <;> rfl)) | cases hf
      rw [this _ _ _ _ _ hf]
      rfl
    · rfl
  · rw [canZ, decide_eq_true (by omega), Bool.eq_false_iff.2 hd, Bool.eq_false_iff.2 hs]
    rfl

end Go.Mac
