/- story.line. -/
import Derived.Test.YtlimhldkkbaohaaDoorQStoryN
open Go Go.Proofs Go.Mac
set_option maxRecDepth 100000
namespace Go.Mac

abbrev namesH : PO := .tab 0 (namesE.map .str)

/-- Which of the first names it is. -/
def sayC (n : List UInt8) : Nat → Int
  | 0 => 0
  | i + 1 => if 0 < i ∧ namesE.getD i [] = n then i else sayC n i

theorem say_four (n : List UInt8) : sayC n 4 = sayB n := by
  simp only [sayC, sayB, namesE, List.getD_eq_getElem?_getD]
  by_cases h1 : n = [99, 97, 109, 101]
  · subst h1; decide
  by_cases h2 : n = [103, 111, 110, 101]
  · subst h2; decide
  by_cases h3 : n = [116, 111, 108, 100]
  · subst h3; decide
  have h1' : ¬ ([99, 97, 109, 101] : List UInt8) = n := fun e => h1 e.symm
  have h2' : ¬ ([103, 111, 110, 101] : List UInt8) = n := fun e => h2 e.symm
  have h3' : ¬ ([116, 111, 108, 100] : List UInt8) = n := fun e => h3 e.symm
  simp [h1, h2, h3, h1', h2', h3']

section
variable {K : AV → List Nat → List PO → Prop}

set_option maxHeartbeats 4000000 in
theorem storyLine {s : List UInt8} (hs : s.length ≤ 1000000000) (h1 : ∀ e, lineE s = some e → K (.tup [.agg ((rowEv e).map .f), .c (.f (.bool true))]) [] [powH, errS, errR, namesH])
    (h0 : lineE s = none → ∀ e : EvZ, K (.tup [.agg ((rowEv e).map .f), .c (.f (.bool false))]) [] [powH, errS, errR, namesH]) : Does Tryd.prog 74 [st s] [powH, errS, errR, namesH] K := by
  refine Does.keep 4 rfl ?_
  refine does Tryd.func74 rfl (by decide) ?_
  change Does Tryd.prog 103 _ _ _
  refine Does.alone 5 (splitAll hs ?_)
  have htl := fun t ht => split_mem_len (c := 32) s t ht
  unfold lineE at h1 h0
  generalize hps : splitB 32 s = ps at h1 h0 htl ⊢
  refine brc_intro (fun hn => ?_) (fun hn => ?_)
  · have hn : ps.length ≠ 4 := fun e => by rw [e] at hn; simp at hn
    refine ⟨4, [0, 1, 2, 3], [powH, errS, errR, namesH], .tup [.agg ((rowEv ⟨0, 0, 0, 0⟩).map .f), .c (.f (.bool false))], rfl, rfl, by decide, by decide, rfl, rfl, rfl, rfl, rfl, h0 ?_ _⟩
    unfold wordsL
    split
    · exact absurd rfl hn
    · rfl
  have hn : ps.length = 4 := by
    have : ((ps.length : Nat) : Int) = 4 := by simpa using hn
    omega
  obtain ⟨a, n, t, v, rfl⟩ : ∃ a n t v, ps = [a, n, t, v] := by
    match ps, hn with
    | [a, n, t, v], _ => exact ⟨a, n, t, v, rfl⟩
  have la := htl a (by simp)
  have lt := htl t (by simp)
  have lv := htl v (by simp)
  have g0 : (([a, n, t, v] : List (List UInt8)).map rowStr)[0 + Int.toNat 0]? = some (rowStr a) := rfl
  have g2 : (([a, n, t, v] : List (List UInt8)).map rowStr)[0 + Int.toNat 2]? = some (rowStr t) := rfl
  have g3 : (([a, n, t, v] : List (List UInt8)).map rowStr)[0 + Int.toNat 3]? = some (rowStr v) := rfl
  have h04 : (0 : Int) < (([a, n, t, v] : List (List UInt8)).length : Int) := by simp
  have h24 : (2 : Int) < (([a, n, t, v] : List (List UInt8)).length : Int) := by simp
  have h34 : (3 : Int) < (([a, n, t, v] : List (List UInt8)).length : Int) := by simp
  refine SS.drawR follows (by decide) ?_
  refine at2 (Int.le_refl 0) h04 (rd1 (rowStr a) (.str a) g0 rfl ?_)
  refine at2 (by decide) h24 (rd1 (rowStr t) (.str t) g2 rfl ?_)
  refine at2 (by decide) h34 (rd1 (rowStr v) (.str v) g3 rfl ?_)
  have c0 : ∃ row x, (([a, n, t, v] : List (List UInt8)).map rowStr)[0 + Int.toNat 0]? = some row ∧ row[0]? = some x ∧ (AV.p (.c (.f x)) : AV) = st a := ⟨rowStr a, .str a, g0, rfl, rfl⟩
  have c2 : ∃ row x, (([a, n, t, v] : List (List UInt8)).map rowStr)[0 + Int.toNat 2]? = some row ∧ row[0]? = some x ∧ (AV.p (.c (.f x)) : AV) = st t := ⟨rowStr t, .str t, g2, rfl, rfl⟩
  have c3 : ∃ row x, (([a, n, t, v] : List (List UInt8)).map rowStr)[0 + Int.toNat 3]? = some row ∧ row[0]? = some x ∧ (AV.p (.c (.f x)) : AV) = st v := ⟨rowStr v, .str v, g3, rfl, rfl⟩
  have g1 : (([a, n, t, v] : List (List UInt8)).map rowStr)[0 + Int.toNat 1]? = some (rowStr n) := rfl
  have fin : ∀ x y z : Int, (∀ u, tokV a = some u → x = u) → (∀ u, tokV t = some u → y = u) → (∀ u, tokV v = some u → z = u) →
      K (.tup [.agg ((rowEv ⟨x, sayB n, y, z⟩).map .f), .c (.f (.bool (true && (tokV a).isSome && (tokV t).isSome && (tokV v).isSome)))]) [] [powH, errS, errR, namesH] := fun x y z hx hy hz => by
    unfold wordsL at h1 h0
    dsimp only at h1 h0
    cases ha : tokV a with
    | none => rw [ha] at h0; exact h0 rfl _
    | some x' =>
      cases ht : tokV t with
      | none => rw [ha, ht] at h0; exact h0 rfl _
      | some y' =>
        cases hv : tokV v with
        | none => rw [ha, ht, hv] at h0; exact h0 rfl _
        | some z' =>
          rw [ha, ht, hv] at h1
          rw [hx x' ha, hy y' ht, hz z' hv]
          exact h1 _ rfl
  refine And.intro ?_ ?_
  · change Does Tryd.prog 106 _ _ _
    refine Does.on 7 [6, 0, 1, 2] _ _ (storyNumberS (s := a) (by omega) fun x hx => ?_)
    repeat' (first | refine And.intro rfl ?_ | refine And.intro (And.intro (Int.le_refl 0) (And.intro h04 rfl)) ?_ | refine And.intro (And.intro (by decide) (And.intro h24 rfl)) ?_ | refine And.intro (And.intro (by decide) (And.intro h34 rfl)) ?_ | refine And.intro c0 ?_ | refine And.intro c2 ?_ | refine And.intro c3 ?_ | fail)
    refine And.intro ?_ ?_
    · change Does Tryd.prog 106 _ _ _
      refine Does.on 7 [6, 0, 1, 2] _ _ (storyNumberS (s := t) (by omega) fun y hy => ?_)
      repeat' (first | refine And.intro rfl ?_ | refine And.intro (And.intro (Int.le_refl 0) (And.intro h04 rfl)) ?_ | refine And.intro (And.intro (by decide) (And.intro h24 rfl)) ?_ | refine And.intro (And.intro (by decide) (And.intro h34 rfl)) ?_ | refine And.intro c0 ?_ | refine And.intro c2 ?_ | refine And.intro c3 ?_ | fail)
      refine And.intro ?_ ?_
      · change Does Tryd.prog 106 _ _ _
        refine Does.on 7 [6, 0, 1, 2] _ _ (storyNumberS (s := v) (by omega) fun z hz => ?_)
        repeat' (first | refine And.intro rfl ?_ | refine And.intro (And.intro (Int.le_refl 0) (And.intro h04 rfl)) ?_ | refine And.intro (And.intro (by decide) (And.intro h24 rfl)) ?_ | refine And.intro (And.intro (by decide) (And.intro h34 rfl)) ?_ | refine And.intro c0 ?_ | refine And.intro c2 ?_ | refine And.intro c3 ?_ | fail)
        repeat' (first | refine And.intro rfl ?_ | refine And.intro (And.intro (Int.le_refl 0) (And.intro h04 rfl)) ?_ | refine And.intro (And.intro (by decide) (And.intro h24 rfl)) ?_ | refine And.intro (And.intro (by decide) (And.intro h34 rfl)) ?_ | refine And.intro c0 ?_ | refine And.intro c2 ?_ | refine And.intro c3 ?_ | fail)
        repeat' (first | refine And.intro rfl ?_ | refine And.intro (And.intro (Int.le_refl 0) (And.intro h04 rfl)) ?_ | refine And.intro (And.intro (by decide) (And.intro h24 rfl)) ?_ | refine And.intro (And.intro (by decide) (And.intro h34 rfl)) ?_ | refine And.intro c0 ?_ | refine And.intro c2 ?_ | refine And.intro c3 ?_ | fail)
        refine SS.loop (fun i : Nat => i ≤ 4) (fun i => [(2, cv (.ptr 4 0)), (4, cv (.slc 5 0 4 none true)), (5, cv (.ptr 6 0)), (6, cv (.ptr 7 0)), (28, .p (.agg (namesE.map fun w => .f (.str w)))), (29, i64 i)])
          (fun i => [powH, errS, errR, namesH, .one [.f (.int .i64 0), .f (.int .i64 0), .f (.int .i64 0), .f (.int .i64 0)], .rows false 1 ([a, n, t, v].map rowStr), .one [.f (.bool (true && (tokV a).isSome && (tokV t).isSome && (tokV v).isSome))], .one [.f (.int .i64 x), .f (.int .i64 (sayC n i)), .f (.int .i64 y), .f (.int .i64 z)]]) (fun i => 4 - i) [4, 5, 6, 7]
          (At.mk' [2, 4, 5, 6, 28, 29] 0 (by simp) ⟨rfl, rfl⟩ rfl rfl (by simp) (by simp) (by decide)) ?_
        intro i hi
        change i ≤ 4 at hi
        refine S_r ?_
        refine brc_intro (fun hlt => ?_) (fun hlt => ?_)
        · have hlt : i < 4 := by
            have := of_decide_eq_true hlt
            have : (i : Int) < 4 := this
            omega
          have wi : IntKind.i64.wrap ((i : Int) + 1) = ((i + 1 : Nat) : Int) := wrap_i64 _ (by omega) (by omega)
          have hnm : (namesE.map fun w => CV.f (.str w))[i]? = some (.f (.str (namesE.getD i []))) := by
            rcases (show i = 0 ∨ i = 1 ∨ i = 2 ∨ i = 3 by omega) with rfl | rfl | rfl | rfl <;> rfl
          refine SS.inlR ?_
          refine at2 (a := (0 : Int) ≤ (i : Int)) (b := (i : Int) < (4 : Nat)) (by omega) (by omega) ?_
          refine Exists.intro (CV.f (.str (namesE.getD i []))) (And.intro (by rw [show szOf Tryd.prog 9 = 1 from rfl, Int.toNat_natCast, Nat.mul_one]; exact hnm) ?_)
          refine brc_intro (fun h0' => ?_) (fun h0' => ?_)
          · have hi0 : 0 < i := by
              have := of_decide_eq_true h0'
              have : (0 : Int) < (i : Int) := this
              omega
            refine at2 (by decide) (by decide) (rd1 (rowStr n) (.str n) g1 rfl ?_)
            refine brc_intro (fun he => ?_) (fun he => ?_)
            · have he : namesE.getD i [] = n := by simpa using he
              have hs : sayC n (i + 1) = (i : Int) := if_pos ⟨hi0, he⟩
              refine At.mk' [2, 4, 5, 6, 28, 29] (i + 1) ⟨hlt, by omega⟩ ⟨?_, rfl⟩ ?_ rfl (by simp) (by simp) (by decide)
              · rw [wi]
              · rw [hs]
                rfl
            · have he : namesE.getD i [] ≠ n := by simpa using he
              have hs : sayC n (i + 1) = sayC n i := if_neg fun h => he h.2
              refine At.mk' [2, 4, 5, 6, 28, 29] (i + 1) ⟨hlt, by omega⟩ ⟨?_, rfl⟩ ?_ rfl (by simp) (by simp) (by decide)
              · rw [wi]
              · rw [hs]
                rfl
          · have hi0 : ¬ 0 < i := by
              have := of_decide_eq_false h0'
              have : ¬ (0 : Int) < (i : Int) := this
              omega
            have hs : sayC n (i + 1) = sayC n i := if_neg fun h => hi0 h.1
            refine At.mk' [2, 4, 5, 6, 28, 29] (i + 1) ⟨hlt, by omega⟩ ⟨?_, rfl⟩ ?_ rfl (by simp) (by simp) (by decide)
            · rw [wi]
            · rw [hs]
              rfl
        · have hlt : ¬ (i : Int) < 4 := of_decide_eq_false hlt
          obtain rfl : i = 4 := by omega
          rw [say_four]
          refine SS.drawR follows (by decide) ?_
          repeat' (first | refine And.intro rfl ?_ | refine And.intro (And.intro (Int.le_refl 0) (And.intro h04 rfl)) ?_ | refine And.intro (And.intro (by decide) (And.intro h24 rfl)) ?_ | refine And.intro (And.intro (by decide) (And.intro h34 rfl)) ?_ | refine And.intro c0 ?_ | refine And.intro c2 ?_ | refine And.intro c3 ?_ | fail)
          exact ⟨4, [0, 1, 2, 3], [powH, errS, errR, namesH], .tup [.agg ((rowEv ⟨x, sayB n, y, z⟩).map .f), .c (.f (.bool (true && (tokV a).isSome && (tokV t).isSome && (tokV v).isSome)))], rfl, rfl, by decide, by decide, rfl, rfl, rfl, rfl, rfl, fin x y z hx hy hz⟩
      · repeat' (first | refine And.intro rfl ?_ | refine And.intro (And.intro (Int.le_refl 0) (And.intro h04 rfl)) ?_ | refine And.intro (And.intro (by decide) (And.intro h24 rfl)) ?_ | refine And.intro (And.intro (by decide) (And.intro h34 rfl)) ?_ | refine And.intro c0 ?_ | refine And.intro c2 ?_ | refine And.intro c3 ?_ | fail)
        change Does Tryd.prog 106 _ _ _
        refine Does.on 8 [6, 0, 1, 2] _ _ (storyNumberS (s := v) (by omega) fun z hz => ?_)
        repeat' (first | refine And.intro rfl ?_ | refine And.intro (And.intro (Int.le_refl 0) (And.intro h04 rfl)) ?_ | refine And.intro (And.intro (by decide) (And.intro h24 rfl)) ?_ | refine And.intro (And.intro (by decide) (And.intro h34 rfl)) ?_ | refine And.intro c0 ?_ | refine And.intro c2 ?_ | refine And.intro c3 ?_ | fail)
        repeat' (first | refine And.intro rfl ?_ | refine And.intro (And.intro (Int.le_refl 0) (And.intro h04 rfl)) ?_ | refine And.intro (And.intro (by decide) (And.intro h24 rfl)) ?_ | refine And.intro (And.intro (by decide) (And.intro h34 rfl)) ?_ | refine And.intro c0 ?_ | refine And.intro c2 ?_ | refine And.intro c3 ?_ | fail)
        refine SS.loop (fun i : Nat => i ≤ 4) (fun i => [(2, cv (.ptr 4 0)), (4, cv (.slc 5 0 4 none true)), (5, cv (.ptr 6 0)), (6, cv (.ptr 7 0)), (28, .p (.agg (namesE.map fun w => .f (.str w)))), (29, i64 i)])
          (fun i => [powH, errS, errR, namesH, .one [.f (.int .i64 0), .f (.int .i64 0), .f (.int .i64 0), .f (.int .i64 0)], .rows false 1 ([a, n, t, v].map rowStr), .one [.f (.bool (true && (tokV a).isSome && (tokV t).isSome && (tokV v).isSome))], .one [.f (.int .i64 x), .f (.int .i64 (sayC n i)), .f (.int .i64 y), .f (.int .i64 z)]]) (fun i => 4 - i) [4, 5, 6, 7]
          (At.mk' [2, 4, 5, 6, 28, 29] 0 (by simp) ⟨rfl, rfl⟩ rfl rfl (by simp) (by simp) (by decide)) ?_
        intro i hi
        change i ≤ 4 at hi
        refine S_r ?_
        refine brc_intro (fun hlt => ?_) (fun hlt => ?_)
        · have hlt : i < 4 := by
            have := of_decide_eq_true hlt
            have : (i : Int) < 4 := this
            omega
          have wi : IntKind.i64.wrap ((i : Int) + 1) = ((i + 1 : Nat) : Int) := wrap_i64 _ (by omega) (by omega)
          have hnm : (namesE.map fun w => CV.f (.str w))[i]? = some (.f (.str (namesE.getD i []))) := by
            rcases (show i = 0 ∨ i = 1 ∨ i = 2 ∨ i = 3 by omega) with rfl | rfl | rfl | rfl <;> rfl
          refine SS.inlR ?_
          refine at2 (a := (0 : Int) ≤ (i : Int)) (b := (i : Int) < (4 : Nat)) (by omega) (by omega) ?_
          refine Exists.intro (CV.f (.str (namesE.getD i []))) (And.intro (by rw [show szOf Tryd.prog 9 = 1 from rfl, Int.toNat_natCast, Nat.mul_one]; exact hnm) ?_)
          refine brc_intro (fun h0' => ?_) (fun h0' => ?_)
          · have hi0 : 0 < i := by
              have := of_decide_eq_true h0'
              have : (0 : Int) < (i : Int) := this
              omega
            refine at2 (by decide) (by decide) (rd1 (rowStr n) (.str n) g1 rfl ?_)
            refine brc_intro (fun he => ?_) (fun he => ?_)
            · have he : namesE.getD i [] = n := by simpa using he
              have hs : sayC n (i + 1) = (i : Int) := if_pos ⟨hi0, he⟩
              refine At.mk' [2, 4, 5, 6, 28, 29] (i + 1) ⟨hlt, by omega⟩ ⟨?_, rfl⟩ ?_ rfl (by simp) (by simp) (by decide)
              · rw [wi]
              · rw [hs]
                rfl
            · have he : namesE.getD i [] ≠ n := by simpa using he
              have hs : sayC n (i + 1) = sayC n i := if_neg fun h => he h.2
              refine At.mk' [2, 4, 5, 6, 28, 29] (i + 1) ⟨hlt, by omega⟩ ⟨?_, rfl⟩ ?_ rfl (by simp) (by simp) (by decide)
              · rw [wi]
              · rw [hs]
                rfl
          · have hi0 : ¬ 0 < i := by
              have := of_decide_eq_false h0'
              have : ¬ (0 : Int) < (i : Int) := this
              omega
            have hs : sayC n (i + 1) = sayC n i := if_neg fun h => hi0 h.1
            refine At.mk' [2, 4, 5, 6, 28, 29] (i + 1) ⟨hlt, by omega⟩ ⟨?_, rfl⟩ ?_ rfl (by simp) (by simp) (by decide)
            · rw [wi]
            · rw [hs]
              rfl
        · have hlt : ¬ (i : Int) < 4 := of_decide_eq_false hlt
          obtain rfl : i = 4 := by omega
          rw [say_four]
          refine SS.drawR follows (by decide) ?_
          repeat' (first | refine And.intro rfl ?_ | refine And.intro (And.intro (Int.le_refl 0) (And.intro h04 rfl)) ?_ | refine And.intro (And.intro (by decide) (And.intro h24 rfl)) ?_ | refine And.intro (And.intro (by decide) (And.intro h34 rfl)) ?_ | refine And.intro c0 ?_ | refine And.intro c2 ?_ | refine And.intro c3 ?_ | fail)
          exact ⟨4, [0, 1, 2, 3], [powH, errS, errR, namesH], .tup [.agg ((rowEv ⟨x, sayB n, y, z⟩).map .f), .c (.f (.bool (true && (tokV a).isSome && (tokV t).isSome && (tokV v).isSome)))], rfl, rfl, by decide, by decide, rfl, rfl, rfl, rfl, rfl, fin x y z hx hy hz⟩
    · repeat' (first | refine And.intro rfl ?_ | refine And.intro (And.intro (Int.le_refl 0) (And.intro h04 rfl)) ?_ | refine And.intro (And.intro (by decide) (And.intro h24 rfl)) ?_ | refine And.intro (And.intro (by decide) (And.intro h34 rfl)) ?_ | refine And.intro c0 ?_ | refine And.intro c2 ?_ | refine And.intro c3 ?_ | fail)
      change Does Tryd.prog 106 _ _ _
      refine Does.on 8 [6, 0, 1, 2] _ _ (storyNumberS (s := t) (by omega) fun y hy => ?_)
      repeat' (first | refine And.intro rfl ?_ | refine And.intro (And.intro (Int.le_refl 0) (And.intro h04 rfl)) ?_ | refine And.intro (And.intro (by decide) (And.intro h24 rfl)) ?_ | refine And.intro (And.intro (by decide) (And.intro h34 rfl)) ?_ | refine And.intro c0 ?_ | refine And.intro c2 ?_ | refine And.intro c3 ?_ | fail)
      change Does Tryd.prog 106 _ _ _
      refine Does.on 8 [6, 0, 1, 2] _ _ (storyNumberS (s := v) (by omega) fun z hz => ?_)
      repeat' (first | refine And.intro rfl ?_ | refine And.intro (And.intro (Int.le_refl 0) (And.intro h04 rfl)) ?_ | refine And.intro (And.intro (by decide) (And.intro h24 rfl)) ?_ | refine And.intro (And.intro (by decide) (And.intro h34 rfl)) ?_ | refine And.intro c0 ?_ | refine And.intro c2 ?_ | refine And.intro c3 ?_ | fail)
      repeat' (first | refine And.intro rfl ?_ | refine And.intro (And.intro (Int.le_refl 0) (And.intro h04 rfl)) ?_ | refine And.intro (And.intro (by decide) (And.intro h24 rfl)) ?_ | refine And.intro (And.intro (by decide) (And.intro h34 rfl)) ?_ | refine And.intro c0 ?_ | refine And.intro c2 ?_ | refine And.intro c3 ?_ | fail)
      refine SS.loop (fun i : Nat => i ≤ 4) (fun i => [(2, cv (.ptr 4 0)), (4, cv (.slc 5 0 4 none true)), (5, cv (.ptr 6 0)), (6, cv (.ptr 7 0)), (28, .p (.agg (namesE.map fun w => .f (.str w)))), (29, i64 i)])
        (fun i => [powH, errS, errR, namesH, .one [.f (.int .i64 0), .f (.int .i64 0), .f (.int .i64 0), .f (.int .i64 0)], .rows false 1 ([a, n, t, v].map rowStr), .one [.f (.bool (true && (tokV a).isSome && (tokV t).isSome && (tokV v).isSome))], .one [.f (.int .i64 x), .f (.int .i64 (sayC n i)), .f (.int .i64 y), .f (.int .i64 z)]]) (fun i => 4 - i) [4, 5, 6, 7]
        (At.mk' [2, 4, 5, 6, 28, 29] 0 (by simp) ⟨rfl, rfl⟩ rfl rfl (by simp) (by simp) (by decide)) ?_
      intro i hi
      change i ≤ 4 at hi
      refine S_r ?_
      refine brc_intro (fun hlt => ?_) (fun hlt => ?_)
      · have hlt : i < 4 := by
          have := of_decide_eq_true hlt
          have : (i : Int) < 4 := this
          omega
        have wi : IntKind.i64.wrap ((i : Int) + 1) = ((i + 1 : Nat) : Int) := wrap_i64 _ (by omega) (by omega)
        have hnm : (namesE.map fun w => CV.f (.str w))[i]? = some (.f (.str (namesE.getD i []))) := by
          rcases (show i = 0 ∨ i = 1 ∨ i = 2 ∨ i = 3 by omega) with rfl | rfl | rfl | rfl <;> rfl
        refine SS.inlR ?_
        refine at2 (a := (0 : Int) ≤ (i : Int)) (b := (i : Int) < (4 : Nat)) (by omega) (by omega) ?_
        refine Exists.intro (CV.f (.str (namesE.getD i []))) (And.intro (by rw [show szOf Tryd.prog 9 = 1 from rfl, Int.toNat_natCast, Nat.mul_one]; exact hnm) ?_)
        refine brc_intro (fun h0' => ?_) (fun h0' => ?_)
        · have hi0 : 0 < i := by
            have := of_decide_eq_true h0'
            have : (0 : Int) < (i : Int) := this
            omega
          refine at2 (by decide) (by decide) (rd1 (rowStr n) (.str n) g1 rfl ?_)
          refine brc_intro (fun he => ?_) (fun he => ?_)
          · have he : namesE.getD i [] = n := by simpa using he
            have hs : sayC n (i + 1) = (i : Int) := if_pos ⟨hi0, he⟩
            refine At.mk' [2, 4, 5, 6, 28, 29] (i + 1) ⟨hlt, by omega⟩ ⟨?_, rfl⟩ ?_ rfl (by simp) (by simp) (by decide)
            · rw [wi]
            · rw [hs]
              rfl
          · have he : namesE.getD i [] ≠ n := by simpa using he
            have hs : sayC n (i + 1) = sayC n i := if_neg fun h => he h.2
            refine At.mk' [2, 4, 5, 6, 28, 29] (i + 1) ⟨hlt, by omega⟩ ⟨?_, rfl⟩ ?_ rfl (by simp) (by simp) (by decide)
            · rw [wi]
            · rw [hs]
              rfl
        · have hi0 : ¬ 0 < i := by
            have := of_decide_eq_false h0'
            have : ¬ (0 : Int) < (i : Int) := this
            omega
          have hs : sayC n (i + 1) = sayC n i := if_neg fun h => hi0 h.1
          refine At.mk' [2, 4, 5, 6, 28, 29] (i + 1) ⟨hlt, by omega⟩ ⟨?_, rfl⟩ ?_ rfl (by simp) (by simp) (by decide)
          · rw [wi]
          · rw [hs]
            rfl
      · have hlt : ¬ (i : Int) < 4 := of_decide_eq_false hlt
        obtain rfl : i = 4 := by omega
        rw [say_four]
        refine SS.drawR follows (by decide) ?_
        repeat' (first | refine And.intro rfl ?_ | refine And.intro (And.intro (Int.le_refl 0) (And.intro h04 rfl)) ?_ | refine And.intro (And.intro (by decide) (And.intro h24 rfl)) ?_ | refine And.intro (And.intro (by decide) (And.intro h34 rfl)) ?_ | refine And.intro c0 ?_ | refine And.intro c2 ?_ | refine And.intro c3 ?_ | fail)
        exact ⟨4, [0, 1, 2, 3], [powH, errS, errR, namesH], .tup [.agg ((rowEv ⟨x, sayB n, y, z⟩).map .f), .c (.f (.bool (true && (tokV a).isSome && (tokV t).isSome && (tokV v).isSome)))], rfl, rfl, by decide, by decide, rfl, rfl, rfl, rfl, rfl, fin x y z hx hy hz⟩
  · repeat' (first | refine And.intro rfl ?_ | refine And.intro (And.intro (Int.le_refl 0) (And.intro h04 rfl)) ?_ | refine And.intro (And.intro (by decide) (And.intro h24 rfl)) ?_ | refine And.intro (And.intro (by decide) (And.intro h34 rfl)) ?_ | refine And.intro c0 ?_ | refine And.intro c2 ?_ | refine And.intro c3 ?_ | fail)
    change Does Tryd.prog 106 _ _ _
    refine Does.on 8 [6, 0, 1, 2] _ _ (storyNumberS (s := a) (by omega) fun x hx => ?_)
    repeat' (first | refine And.intro rfl ?_ | refine And.intro (And.intro (Int.le_refl 0) (And.intro h04 rfl)) ?_ | refine And.intro (And.intro (by decide) (And.intro h24 rfl)) ?_ | refine And.intro (And.intro (by decide) (And.intro h34 rfl)) ?_ | refine And.intro c0 ?_ | refine And.intro c2 ?_ | refine And.intro c3 ?_ | fail)
    change Does Tryd.prog 106 _ _ _
    refine Does.on 8 [6, 0, 1, 2] _ _ (storyNumberS (s := t) (by omega) fun y hy => ?_)
    repeat' (first | refine And.intro rfl ?_ | refine And.intro (And.intro (Int.le_refl 0) (And.intro h04 rfl)) ?_ | refine And.intro (And.intro (by decide) (And.intro h24 rfl)) ?_ | refine And.intro (And.intro (by decide) (And.intro h34 rfl)) ?_ | refine And.intro c0 ?_ | refine And.intro c2 ?_ | refine And.intro c3 ?_ | fail)
    change Does Tryd.prog 106 _ _ _
    refine Does.on 8 [6, 0, 1, 2] _ _ (storyNumberS (s := v) (by omega) fun z hz => ?_)
    repeat' (first | refine And.intro rfl ?_ | refine And.intro (And.intro (Int.le_refl 0) (And.intro h04 rfl)) ?_ | refine And.intro (And.intro (by decide) (And.intro h24 rfl)) ?_ | refine And.intro (And.intro (by decide) (And.intro h34 rfl)) ?_ | refine And.intro c0 ?_ | refine And.intro c2 ?_ | refine And.intro c3 ?_ | fail)
    repeat' (first | refine And.intro rfl ?_ | refine And.intro (And.intro (Int.le_refl 0) (And.intro h04 rfl)) ?_ | refine And.intro (And.intro (by decide) (And.intro h24 rfl)) ?_ | refine And.intro (And.intro (by decide) (And.intro h34 rfl)) ?_ | refine And.intro c0 ?_ | refine And.intro c2 ?_ | refine And.intro c3 ?_ | fail)
    refine SS.loop (fun i : Nat => i ≤ 4) (fun i => [(2, cv (.ptr 4 0)), (4, cv (.slc 5 0 4 none true)), (5, cv (.ptr 6 0)), (6, cv (.ptr 7 0)), (28, .p (.agg (namesE.map fun w => .f (.str w)))), (29, i64 i)])
      (fun i => [powH, errS, errR, namesH, .one [.f (.int .i64 0), .f (.int .i64 0), .f (.int .i64 0), .f (.int .i64 0)], .rows false 1 ([a, n, t, v].map rowStr), .one [.f (.bool (true && (tokV a).isSome && (tokV t).isSome && (tokV v).isSome))], .one [.f (.int .i64 x), .f (.int .i64 (sayC n i)), .f (.int .i64 y), .f (.int .i64 z)]]) (fun i => 4 - i) [4, 5, 6, 7]
      (At.mk' [2, 4, 5, 6, 28, 29] 0 (by simp) ⟨rfl, rfl⟩ rfl rfl (by simp) (by simp) (by decide)) ?_
    intro i hi
    change i ≤ 4 at hi
    refine S_r ?_
    refine brc_intro (fun hlt => ?_) (fun hlt => ?_)
    · have hlt : i < 4 := by
        have := of_decide_eq_true hlt
        have : (i : Int) < 4 := this
        omega
      have wi : IntKind.i64.wrap ((i : Int) + 1) = ((i + 1 : Nat) : Int) := wrap_i64 _ (by omega) (by omega)
      have hnm : (namesE.map fun w => CV.f (.str w))[i]? = some (.f (.str (namesE.getD i []))) := by
        rcases (show i = 0 ∨ i = 1 ∨ i = 2 ∨ i = 3 by omega) with rfl | rfl | rfl | rfl <;> rfl
      refine SS.inlR ?_
      refine at2 (a := (0 : Int) ≤ (i : Int)) (b := (i : Int) < (4 : Nat)) (by omega) (by omega) ?_
      refine Exists.intro (CV.f (.str (namesE.getD i []))) (And.intro (by rw [show szOf Tryd.prog 9 = 1 from rfl, Int.toNat_natCast, Nat.mul_one]; exact hnm) ?_)
      refine brc_intro (fun h0' => ?_) (fun h0' => ?_)
      · have hi0 : 0 < i := by
          have := of_decide_eq_true h0'
          have : (0 : Int) < (i : Int) := this
          omega
        refine at2 (by decide) (by decide) (rd1 (rowStr n) (.str n) g1 rfl ?_)
        refine brc_intro (fun he => ?_) (fun he => ?_)
        · have he : namesE.getD i [] = n := by simpa using he
          have hs : sayC n (i + 1) = (i : Int) := if_pos ⟨hi0, he⟩
          refine At.mk' [2, 4, 5, 6, 28, 29] (i + 1) ⟨hlt, by omega⟩ ⟨?_, rfl⟩ ?_ rfl (by simp) (by simp) (by decide)
          · rw [wi]
          · rw [hs]
            rfl
        · have he : namesE.getD i [] ≠ n := by simpa using he
          have hs : sayC n (i + 1) = sayC n i := if_neg fun h => he h.2
          refine At.mk' [2, 4, 5, 6, 28, 29] (i + 1) ⟨hlt, by omega⟩ ⟨?_, rfl⟩ ?_ rfl (by simp) (by simp) (by decide)
          · rw [wi]
          · rw [hs]
            rfl
      · have hi0 : ¬ 0 < i := by
          have := of_decide_eq_false h0'
          have : ¬ (0 : Int) < (i : Int) := this
          omega
        have hs : sayC n (i + 1) = sayC n i := if_neg fun h => hi0 h.1
        refine At.mk' [2, 4, 5, 6, 28, 29] (i + 1) ⟨hlt, by omega⟩ ⟨?_, rfl⟩ ?_ rfl (by simp) (by simp) (by decide)
        · rw [wi]
        · rw [hs]
          rfl
    · have hlt : ¬ (i : Int) < 4 := of_decide_eq_false hlt
      obtain rfl : i = 4 := by omega
      rw [say_four]
      refine SS.drawR follows (by decide) ?_
      repeat' (first | refine And.intro rfl ?_ | refine And.intro (And.intro (Int.le_refl 0) (And.intro h04 rfl)) ?_ | refine And.intro (And.intro (by decide) (And.intro h24 rfl)) ?_ | refine And.intro (And.intro (by decide) (And.intro h34 rfl)) ?_ | refine And.intro c0 ?_ | refine And.intro c2 ?_ | refine And.intro c3 ?_ | fail)
      exact ⟨4, [0, 1, 2, 3], [powH, errS, errR, namesH], .tup [.agg ((rowEv ⟨x, sayB n, y, z⟩).map .f), .c (.f (.bool (true && (tokV a).isSome && (tokV t).isSome && (tokV v).isSome)))], rfl, rfl, by decide, by decide, rfl, rfl, rfl, rfl, rfl, fin x y z hx hy hz⟩

end
end Go.Mac
