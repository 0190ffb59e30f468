/- story.Right. -/
import Derived.Test.YtlimhldkkbaohaaDoorQStoryT
open Go Go.Proofs Go.Mac
set_option maxRecDepth 100000
namespace Go.Mac

section
variable {K : AV → List Nat → List PO → Prop}

set_option maxHeartbeats 1000000 in
theorem storyRight {all es : List EvZ} {n o : Nat} {ro nn : Bool} {c : Option Nat} (hl : es.length = n) (hall : ∀ i, i < n → all[o + i]? = es[i]?) (hn : n ≤ 1000000000)
    (h : K (bl (rightE 0 es)) [] [.rows ro 4 (all.map rowEv)]) : Does Tryd.prog 29 [cv (.slc 0 o n c nn)] [.rows ro 4 (all.map rowEv)] K := by
  refine Does.keep 1 rfl ?_
  refine does Tryd.func29 rfl (by decide) ?_
  refine SS.loop (fun p : Nat × Int => p.1 ≤ n ∧ rightE 0 es = rightE p.2 (es.drop p.1)) (fun p => [(3, i64 p.2), (6, cv (.slc 0 o n c nn)), (7, i64 n), (8, i64 p.1)]) (fun _ => [.rows ro 4 (all.map rowEv)]) (fun p => n - p.1) [1, 2, 3]
    (At.mk' [3, 6, 7, 8] (0, 0) ⟨by simp, by simp⟩ ⟨rfl, rfl⟩ rfl rfl (by simp) (by simp) (by simp)) ?_
  rintro ⟨i, w⟩ ⟨hi, hr⟩
  dsimp only at hi hr
  refine S_r ?_
  refine brc_intro (fun hlt => ?_) (fun hlt => ?_)
  · have hlt : i < n := by
      have := of_decide_eq_true hlt
      have : (i : Int) < (n : Int) := this
      omega
    obtain ⟨e, he⟩ : ∃ e, es[i]? = some e := ⟨_, List.getElem?_eq_getElem (by omega)⟩
    have hd : es.drop i = e :: es.drop (i + 1) := by
      rw [List.drop_eq_getElem_cons (by omega)]
      congr 1
      rw [List.getElem?_eq_getElem (by omega)] at he
      exact Option.some.inj he
    have hra : (all.map rowEv)[o + Int.toNat (i : Int)]? = some (rowEv e) := by rw [Int.toNat_natCast, List.getElem?_map, hall i hlt, he]; rfl
    rw [hd, rightE] at hr
    refine SS.inlR ?_
    refine at2 (a := (0 : Int) ≤ (i : Int)) (b := (i : Int) < (n : Int)) (by omega) (by omega) (rdA (rowEv e) hra ?_)
    have fail : okE w e = false → K (bl false) [] [.rows ro 4 (all.map rowEv)] := fun hf => by rw [hr, hf] at h; exact h
    have no : ¬ (w < e.w ∧ 1 ≤ e.a ∧ e.a ≤ 3 ∧ 0 ≤ e.t ∧ e.t < 16) → okE w e = false := fun hno => by
      cases hh : okE w e with
      | false => rfl
      | true => exact absurd (okE_spec.1 hh) hno
    refine brc_intro (fun h1 => ?_) (fun h1 => ?_)
    · have h1 : e.w ≤ w := of_decide_eq_true h1
      exact ⟨1, [0], _, _, rfl, rfl, by decide, by decide, rfl, rfl, rfl, rfl, rfl, fail (no (by omega))⟩
    have h1 : ¬ e.w ≤ w := of_decide_eq_false h1
    refine brc_intro (fun h2 => ?_) (fun h2 => ?_)
    · have h2 : e.a < 1 := of_decide_eq_true h2
      exact ⟨1, [0], _, _, rfl, rfl, by decide, by decide, rfl, rfl, rfl, rfl, rfl, fail (no (by omega))⟩
    have h2 : ¬ e.a < 1 := of_decide_eq_false h2
    refine brc_intro (fun h3 => ?_) (fun h3 => ?_)
    · have h3 : e.a > 3 := of_decide_eq_true h3
      exact ⟨1, [0], _, _, rfl, rfl, by decide, by decide, rfl, rfl, rfl, rfl, rfl, fail (no (by omega))⟩
    have h3 : ¬ e.a > 3 := of_decide_eq_false h3
    refine brc_intro (fun h4 => ?_) (fun h4 => ?_)
    · have h4 : e.t < 0 := of_decide_eq_true h4
      exact ⟨1, [0], _, _, rfl, rfl, by decide, by decide, rfl, rfl, rfl, rfl, rfl, fail (no (by omega))⟩
    have h4 : ¬ e.t < 0 := of_decide_eq_false h4
    refine brc_intro (fun h5 => ?_) (fun h5 => ?_)
    · have h5 : e.t ≥ 16 := of_decide_eq_true h5
      exact ⟨1, [0], _, _, rfl, rfl, by decide, by decide, rfl, rfl, rfl, rfl, rfl, fail (no (by omega))⟩
    have h5 : ¬ e.t ≥ 16 := of_decide_eq_false h5
    refine At.mk' [3, 6, 7, 8] (i + 1, e.w) ⟨⟨by dsimp only; omega, ?_⟩, by dsimp only; omega⟩ ⟨?_, rfl⟩ rfl rfl (by simp) (by simp) (by decide)
    · rw [hr, okE_spec.2 ⟨by omega, by omega, by omega, by omega, by omega⟩, Bool.true_and]
    · rw [wrap_i64 _ (by omega) (by omega)]
      rfl
  · have hlt : ¬ (i : Int) < (n : Int) := of_decide_eq_false hlt
    obtain rfl : n = i := by omega
    rw [List.drop_of_length_le (by omega)] at hr
    rw [hr] at h
    exact ⟨1, [0], _, _, rfl, rfl, by decide, by decide, rfl, rfl, rfl, rfl, rfl, h⟩

theorem storyRightR {R : List (List FC)} {es : List EvZ} {n : Nat} {ro nn : Bool} {c : Option Nat} (hR : R = es.map rowEv) (hl : es.length = n) (hn : n ≤ 1000000000)
    (h : K (bl (rightE 0 es)) [] [.rows ro 4 R]) : Does Tryd.prog 29 [cv (.slc 0 0 n c nn)] [.rows ro 4 R] K := by
  subst hR
  exact storyRight hl (fun i _ => by rw [Nat.zero_add]) hn h

end
end Go.Mac
