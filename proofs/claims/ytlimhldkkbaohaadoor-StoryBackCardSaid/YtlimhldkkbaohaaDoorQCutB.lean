/- Texts cut at a byte, and put together. -/
import Derived.Lib.Bytealg
namespace Go.Mac
open Go

/-- A text's parts. -/
def splitB (c : UInt8) : List UInt8 → List (List UInt8)
  | [] => [[]]
  | b :: s => if b = c then [] :: splitB c s else match splitB c s with
    | p :: ps => (b :: p) :: ps
    | [] => [[b]]

def joinB (c : UInt8) : List (List UInt8) → List UInt8
  | [] => []
  | [p] => p
  | p :: q :: ps => p ++ c :: joinB c (q :: ps)

theorem split_ne (c : UInt8) : ∀ s, splitB c s ≠ []
  | [] => by simp [splitB]
  | b :: s => by
    unfold splitB
    split
    · simp
    · split <;> simp

theorem joinB_cons {c : UInt8} {p : List UInt8} {ps : List (List UInt8)} (h : ps ≠ []) : joinB c (p :: ps) = p ++ c :: joinB c ps := by
  cases ps with
  | nil => exact absurd rfl h
  | cons q qs => rfl

theorem joinB_one {c : UInt8} {p : List UInt8} : joinB c [p] = p := rfl

theorem join_split (c : UInt8) : ∀ s, joinB c (splitB c s) = s
  | [] => rfl
  | b :: s => by
    have ih := join_split c s
    have hne := split_ne c s
    unfold splitB
    split
    · rename_i hb
      rw [joinB_cons hne, ih, hb]
      rfl
    · split
      · rename_i p ps hp
        rw [hp] at ih
        cases ps with
        | nil => rw [joinB_one] at ih ⊢; rw [ih]
        | cons q qs =>
          rw [joinB_cons (by simp)] at ih ⊢
          rw [List.cons_append, ih]
      · rename_i hp
        exact absurd hp hne

theorem split_free (c : UInt8) : ∀ s, ∀ p ∈ splitB c s, c ∉ p
  | [], p, hp => by
    rw [splitB, List.mem_singleton] at hp
    subst hp; simp
  | b :: s, p, hp => by
    have ih := split_free c s
    unfold splitB at hp
    split at hp
    · rcases List.mem_cons.1 hp with rfl | hp
      · simp
      · exact ih p hp
    · rename_i hb
      split at hp
      · rename_i q qs hq
        rw [hq] at ih
        rcases List.mem_cons.1 hp with rfl | hp
        · intro hm
          rcases List.mem_cons.1 hm with e | hm
          · exact hb e.symm
          · exact ih q (by simp) hm
        · exact ih p (by simp [hp])
      · rename_i hq
        exact absurd hq (split_ne c s)

theorem split_mem_len {c : UInt8} : ∀ (s p : List UInt8), p ∈ splitB c s → p.length ≤ s.length
  | [], p, hp => by
    rw [splitB, List.mem_singleton] at hp
    subst hp; simp
  | b :: s, p, hp => by
    have ih := split_mem_len (c := c) s
    unfold splitB at hp
    split at hp
    · rcases List.mem_cons.1 hp with rfl | hp
      · simp
      · have := ih p hp
        simp; omega
    · split at hp
      · rename_i q qs hq
        rw [hq] at ih
        rcases List.mem_cons.1 hp with rfl | hp
        · have := ih q (by simp)
          simp; omega
        · have := ih p (by simp [hp])
          simp; omega
      · rw [List.mem_singleton] at hp
        subst hp
        simp

theorem split_app {c : UInt8} {r : List UInt8} : ∀ {p : List UInt8}, c ∉ p → splitB c (p ++ c :: r) = p :: splitB c r
  | [], _ => by
    rw [List.nil_append, splitB, if_pos rfl]
  | b :: p, h => by
    simp only [List.mem_cons, not_or] at h
    rw [List.cons_append, splitB, if_neg (fun e => h.1 e.symm), split_app h.2]

theorem split_one {c : UInt8} : ∀ {p : List UInt8}, c ∉ p → splitB c p = [p]
  | [], _ => rfl
  | b :: p, h => by
    simp only [List.mem_cons, not_or] at h
    rw [splitB, if_neg (fun e => h.1 e.symm), split_one h.2]

theorem split_join {c : UInt8} : ∀ {ps : List (List UInt8)}, ps ≠ [] → (∀ p ∈ ps, c ∉ p) → splitB c (joinB c ps) = ps
  | [], h, _ => absurd rfl h
  | [p], _, h => split_one (h p (by simp))
  | p :: q :: ps, _, h => by
    rw [joinB_cons (by simp), split_app (h p (by simp)), split_join (by simp) (fun x hx => h x (by simp [hx]))]

theorem count_free {c : UInt8} {p : List UInt8} (h : c ∉ p) : Lib.countByte p c = 0 := List.count_eq_zero.2 h

theorem count_join {c : UInt8} : ∀ {ps : List (List UInt8)}, ps ≠ [] → (∀ p ∈ ps, c ∉ p) → Lib.countByte (joinB c ps) c + 1 = ps.length
  | [], h, _ => absurd rfl h
  | [p], _, h => by rw [joinB_one, count_free (h p (by simp))]; rfl
  | p :: q :: ps, _, h => by
    have ih := count_join (c := c) (ps := q :: ps) (by simp) (fun x hx => h x (by simp [hx]))
    have h0 := count_free (h p (by simp))
    rw [joinB_cons (by simp)]
    unfold Lib.countByte at ih h0 ⊢
    rw [List.count_append, h0, List.count_cons_self]
    simp only [List.length_cons] at ih ⊢
    omega

theorem split_len (c : UInt8) (s : List UInt8) : (splitB c s).length = Lib.countByte s c + 1 := by
  rw [← count_join (split_ne c s) (split_free c s), join_split]

theorem index_app {c : UInt8} {r : List UInt8} : ∀ {p : List UInt8}, c ∉ p → Lib.indexByte (p ++ c :: r) c = p.length
  | [], _ => by
    show Lib.indexByte (c :: r) c = _
    rw [Lib.indexByte, if_pos (by simp)]
    rfl
  | b :: p, h => by
    simp only [List.mem_cons, not_or] at h
    rw [List.cons_append, Lib.indexByte, if_neg (by simpa using fun e : b = c => h.1 e.symm), index_app h.2, if_neg (by simp)]
    simp

theorem index_free {c : UInt8} : ∀ {p : List UInt8}, c ∉ p → Lib.indexByte p c = -1
  | [], _ => rfl
  | b :: p, h => by
    simp only [List.mem_cons, not_or] at h
    rw [Lib.indexByte, if_neg (by simpa using fun e : b = c => h.1 e.symm), index_free h.2]
    rfl

/-- Cut at the first one. -/
def cutB (c : UInt8) : List UInt8 → Option (List UInt8 × List UInt8)
  | [] => none
  | b :: s => if b = c then some ([], s) else (cutB c s).map fun x => (b :: x.1, x.2)

theorem cut_some {c : UInt8} : ∀ {s p r : List UInt8}, cutB c s = some (p, r) → s = p ++ c :: r ∧ c ∉ p
  | [], _, _, h => by cases h
  | b :: s, p, r, h => by
    unfold cutB at h
    split at h
    · rename_i hb
      cases h
      exact ⟨by rw [hb]; rfl, by simp⟩
    · rename_i hb
      rw [Option.map_eq_some_iff] at h
      obtain ⟨⟨p', r'⟩, h1, h2⟩ := h
      cases h2
      obtain ⟨h3, h4⟩ := cut_some h1
      refine ⟨by rw [h3]; rfl, fun hm => ?_⟩
      rcases List.mem_cons.1 hm with e | hm
      · exact hb e.symm
      · exact h4 hm

theorem cut_none {c : UInt8} : ∀ {s : List UInt8}, cutB c s = none → c ∉ s
  | [], _ => by simp
  | b :: s, h => by
    unfold cutB at h
    split at h
    · cases h
    · rename_i hb
      rw [Option.map_eq_none_iff] at h
      intro hm
      rcases List.mem_cons.1 hm with e | hm
      · exact hb e.symm
      · exact cut_none h hm

theorem cut_app {c : UInt8} {r : List UInt8} : ∀ {p : List UInt8}, c ∉ p → cutB c (p ++ c :: r) = some (p, r)
  | [], _ => if_pos rfl
  | b :: p, h => by
    simp only [List.mem_cons, not_or] at h
    rw [List.cons_append, cutB, if_neg (fun e => h.1 e.symm), cut_app h.2]
    rfl

end Go.Mac
