/- For nothing is for nothing: the walk. -/
import Derived.Test.YtnhldphlkklfiaaGreatDoorQPokeL
import Derived.Test.YtnhldphlkklfiaaGreatDoorQDelMoves
open Go Go.Proofs Go.Mac
set_option maxRecDepth 100000
namespace Go.Mac

section
variable {K : AV → List Nat → List PO → Prop}

theorem floorG {k n R : Nat} {all ms : List MoveZ} {ro nn : Bool} {c : Option Nat} {l : Nat} (hk : KindOk (k : Int) n R (kindC k n) (kindPs k n R)) (hl : ms.length = l) (hall : ∀ i, i < l → all[i]? = ms[i]?) (hlb : l ≤ 1000000)
    {z : MZ} (hz : movesZ (danceM k n R) (ms.map (pickM n)) = z) (h : ∀ v, okV v → WF z → K (cv (.ptr 1 0)) [] ([.rows ro 2 (all.map rowMove)] ++ machS 1 z v)) :
    Does Tryz.prog 23 [i64 k, i64 n, i64 R, cv (.slc 0 0 l c nn)] [.rows ro 2 (all.map rowMove)] K := by
  subst hz
  have hps := hk.len
  obtain ⟨hn1, hn⟩ := hk.n16
  refine does Tryz.func23 rfl (by decide) ?_
  change Does Tryz.prog 58 _ _ _
  refine Does.alone 1 (danceNew hk fun v hv w0 => ?_)
  have w0 : WF (danceM k n R) := w0
  change Does Tryz.prog 59 _ _ _
  refine Does.on 10 [1, 2, 3, 4, 5, 6, 7, 8, 9] _ _ (coreThreads (m := danceM k n R) (v := v) ?_)
  refine brc_intro (fun h => ?_) (fun _ => ?_)
  · exact absurd (show (((kindPs k n R).length : Int) != (n : Int)) = true from h) (by simp [hps])
  refine SS.loop (fun p : Nat × VZ => p.1 ≤ l ∧ okV p.2) (fun p => [(1, i64 n), (9, cv (.ptr 1 0)), (32, cv (.slc 0 0 l c nn)), (33, i64 l), (34, i64 p.1)])
    (fun p => [.rows ro 2 (all.map rowMove)] ++ machS 1 (movesZ (danceM k n R) ((ms.map (pickM n)).take p.1)) p.2) (fun p => l - p.1) [7, 8, 9]
    (At.mk' [1, 9, 32, 33, 34] (0, v) ⟨by simp, hv⟩ ⟨rfl, rfl⟩ rfl rfl (by simp) (by simp) (by decide)) ?_
  rintro ⟨i, v1⟩ ⟨hik, hv1⟩
  change i ≤ l at hik
  change okV v1 at hv1
  refine S_r ?_
  refine brc_intro (fun hlt => ?_) (fun hlt => ?_)
  · have hlt : i < l := by
      have := of_decide_eq_true hlt
      have : (i : Int) < (l : Int) := this
      omega
    obtain ⟨x, hx⟩ : ∃ x, ms[i]? = some x := ⟨_, List.getElem?_eq_getElem (by omega)⟩
    have hw1 := w0.moves ((ms.map (pickM n)).take i)
    have hnx := movesZ_take (danceM k n R) (ms.map (pickM n)) i (pickM n x) (by simp [hx])
    have hxm : (all.map rowMove)[0 + Int.toNat (i : Int)]? = some (rowMove x) := by simp [hall i hlt, hx]
    refine SS.inlR ?_
    refine at2 (a := (0 : Int) ≤ (i : Int)) (b := (i : Int) < (l : Int)) (by omega) (by omega) (rdA (rowMove x) hxm ?_)
    refine brc_intro (fun hp => ?_) (fun hp => ?_)
    · rw [moveZ, if_pos (show (pickM n x).pk = true from hp)] at hnx
      change Does Tryz.prog 22 _ _ _
      refine Does.alone 11 (pick x.th n (by omega) ?_)
      change Does Tryz.prog 60 _ _ _
      refine Does.on 11 [1, 2, 3, 4, 5, 6, 7, 8, 9] _ _ (corePoke (m := movesZ (danceM k n R) ((ms.map (pickM n)).take i)) (v := v1) hw1 hv1 (pickZ x.th n) (fun v' hv' => ?_) fun e v' hv' => ?_)
      all_goals
        change okV v' at hv'
        rw [show pokeZ (movesZ (danceM k n R) ((ms.map (pickM n)).take i)) (pickZ x.th n) = movesZ (danceM k n R) ((ms.map (pickM n)).take (i + 1)) from hnx.symm]
        refine At.mk' [1, 9, 32, 33, 34] (i + 1, v') ⟨⟨hlt, hv'⟩, by show l - (i + 1) < l - i; omega⟩ ⟨?_, rfl⟩ rfl rfl (by simp) (by simp) (by decide)
        rw [wrap_i64 (i + 1) (by omega) (by omega)]
        rfl
    · rw [moveZ, if_neg (show ¬ (pickM n x).pk = true from fun h => by rw [show (pickM n x).pk = false from hp] at h; cases h)] at hnx
      change Does Tryz.prog 22 _ _ _
      refine Does.alone 11 (pick x.th n (by omega) ?_)
      change Does Tryz.prog 26 _ _ _
      refine Does.on 11 [1, 2, 3, 4, 5, 6, 7, 8, 9] _ _ (coreStep (m := movesZ (danceM k n R) ((ms.map (pickM n)).take i)) (v := v1) hw1 hv1 (pickZ x.th n) (fun _ v' hv' => ?_) fun _ v' hv' => ?_)
      all_goals
        rw [show (stepZ (movesZ (danceM k n R) ((ms.map (pickM n)).take i)) (pickZ x.th n)).2 = movesZ (danceM k n R) ((ms.map (pickM n)).take (i + 1)) from hnx.symm]
        refine At.mk' [1, 9, 32, 33, 34] (i + 1, v') ⟨⟨hlt, hv'⟩, by show l - (i + 1) < l - i; omega⟩ ⟨?_, rfl⟩ rfl rfl (by simp) (by simp) (by decide)
        rw [wrap_i64 (i + 1) (by omega) (by omega)]
        rfl
  · have hlt : ¬ (i : Int) < (l : Int) := of_decide_eq_false hlt
    obtain rfl : i = l := by omega
    rw [show (ms.map (pickM n)).take i = ms.map (pickM n) from List.take_of_length_le (by rw [List.length_map]; omega)]
    exact h v1 hv1 (w0.moves _)

theorem leftG {k n R : Nat} {all ms : List MoveZ} {ro nn : Bool} {c : Option Nat} {l : Nat} (hk : KindOk (k : Int) n R (kindC k n) (kindPs k n R)) (hl : ms.length = l) (hall : ∀ i, i < l → all[i]? = ms[i]?) (hlb : l ≤ 1000000)
    (h : (leftZ k n R ms).length ≤ 300 → K (cv (.slc 1 0 (leftZ k n R ms).length none false)) [] [.rows ro 2 (all.map rowMove), .rows false 1 ((leftZ k n R ms).map rowU)]) :
    Does Tryz.prog 28 [i64 k, i64 n, i64 R, cv (.slc 0 0 l c nn)] [.rows ro 2 (all.map rowMove)] K := by
  refine Does.keep 1 rfl ?_
  refine does Tryz.func28 rfl (by decide) ?_
  change Does Tryz.prog 23 _ _ _
  obtain ⟨z, hz⟩ : ∃ z, movesZ (danceM k n R) (ms.map (pickM n)) = z := ⟨_, rfl⟩
  refine Does.on 1 [0] _ _ (floorG (all := all) (ms := ms) (z := z) hk hl hall hlb hz fun v hv hw => ?_)
  change Does Tryz.prog 24 _ _ _
  refine Does.on 10 [1, 2, 3, 4, 5, 6, 7, 8, 9] _ _ (fairFinish (m := z) (v := v) hw hv fun v1 c hv1 hw1 => ?_)
  have e : (finish z).ws = leftZ k n R ms := by rw [← hz]; rfl
  have hb : (leftZ k n R ms).length ≤ 300 := by rw [← e]; exact hw1.ws.1
  have h := h hb
  change Does Tryz.prog 29 _ _ _
  refine Does.on 10 [1, 2, 3, 4, 5, 6, 7, 8, 9] _ _ (coreCellsL (m := finish z) (v := v1) hw1 e ?_)
  exact ⟨11, [0, 10], [.rows ro 2 (all.map rowMove), .rows false 1 ((leftZ k n R ms).map rowU)], cv (.slc 1 0 (leftZ k n R ms).length none false), rfl, rfl, by decide, by decide, rfl, rfl, rfl, rfl, rfl, h⟩

end

theorem dancePokes (k : Int) (_hk : -9223372036854775808 ≤ k ∧ k ≤ 9223372036854775807) (n : Int) (_hn : -9223372036854775808 ≤ n ∧ n ≤ 9223372036854775807) (R : Int) (_hR : -9223372036854775808 ≤ R ∧ R ≤ 9223372036854775807) (ms : List MoveZ) :
    Does Tryz.prog 16 [i64 k, i64 n, i64 R, cv (.slc 0 0 ms.length none false)] [.rows true 2 (ms.map rowMove), rtH] fun v _ _ => v = bl true := by
  refine does Tryz.func16 rfl (by decide) ?_
  change Does Tryz.prog 20 _ _ _
  refine Does.on 2 [1] _ _ (danced ?_)
  refine brc_intro (fun _ => rfl) (fun h => ?_)
  have hms : ms.length ≤ 500 := by
    have := of_decide_eq_false h
    omega
  change Does Tryz.prog 21 _ _ _
  refine Does.alone 2 (ball k n R ?_)
  obtain ⟨k, hk, hk6⟩ := pick6 k
  obtain ⟨n, hn, hn16⟩ := pick16b n
  obtain ⟨R, hR, hR6⟩ := pick7 R
  rw [hk, hn, hR]
  have hko := kindAll (R := R) hk6 hn16 (show R ≤ 20 by omega)
  have h300 := hko.nc300
  have hlen : ∀ l : List MoveZ, l.length ≤ 900 → (leftZ k n R l).length = kindC k n := fun l hl => by rw [left_end hk6 hn16 hR6 l hl, cellsL_len]
  have h0 : 0 < kindC k n ∨ k = 4 ∧ n = 1 := by
    have h1 := all_range left_some (t := k - 1) (by omega)
    have h2 := all_range h1 (t := n - 1) (by omega)
    rw [show k - 1 + 1 = k by omega, show n - 1 + 1 = n by omega] at h2
    exact of_decide_eq_true h2
  change Does Tryz.prog 44 _ _ _
  refine Does.on 2 [0] _ _ (cloneMoves (l := ms) (n := ms.length) (ro := true) rfl (by omega) (fun hz => ?_) ?_)
  · obtain rfl : ms = [] := List.length_eq_zero_iff.1 hz
    change Does Tryz.prog 43 _ _ _
    refine Does.nilArg 2 (by decide) ?_
    refine Does.on 3 [2] _ _ (deleteMoves (xs := []) rfl (by decide) fun nn ex => ?_)
    change Does Tryz.prog 28 _ _ _
    refine Does.on 3 [0] _ _ (left (k := k) (n := n) (R := R) (ms := ([] : List MoveZ)) hko rfl (by simp) fun _ => ?_)
    change Does Tryz.prog 28 _ _ _
    refine Does.on 4 [2] _ _ (leftG (k := k) (n := n) (R := R) (all := noP ([] : List MoveZ) ++ ex) (ms := noP ([] : List MoveZ)) hko rfl (fun j hj => List.getElem?_append_left hj) (by simp) fun _ => ?_)
    rw [left_same hk6 hn16 hR6 (noP ([] : List MoveZ)) ([] : List MoveZ) (by simp) (by simp), hlen ([] : List MoveZ) (by simp)]
    generalize hw : leftZ k n R ([] : List MoveZ) = w
    have hwl : w.length = kindC k n := by rw [← hw]; exact hlen ([] : List MoveZ) (by simp)
    rw [← hwl]
    rw [← hwl] at h0
    change Does Tryz.prog 46 _ _ _
    refine Does.on 5 [3, 4] _ _ (equalU (xs := w) (ys := w) (by rw [hwl]; omega) (fun _ => ?_) fun h => absurd rfl h)
    refine brc_intro (fun _ => fin rfl) (fun hz0 => ?_)
    have hz0 : ¬ 0 < w.length := by
      have h9 : ¬ (w.length : Int) > 0 := of_decide_eq_false hz0
      omega
    obtain ⟨rfl, rfl⟩ : k = 4 ∧ n = 1 := by
      rcases h0 with h0 | h0
      · exact absurd h0 hz0
      · exact h0
    exact fin rfl
  · change Does Tryz.prog 43 _ _ _
    refine Does.on 3 [2] _ _ (deleteMoves (xs := ms) rfl (by omega) fun nn ex => ?_)
    have hno : (noP ms).length ≤ ms.length := List.length_filter_le _ _
    change Does Tryz.prog 28 _ _ _
    refine Does.on 3 [0] _ _ (left (k := k) (n := n) (R := R) (ms := ms) hko rfl (by omega) fun _ => ?_)
    change Does Tryz.prog 28 _ _ _
    refine Does.on 4 [2] _ _ (leftG (k := k) (n := n) (R := R) (all := noP ms ++ ex) (ms := noP ms) hko rfl (fun j hj => List.getElem?_append_left hj) (by omega) fun _ => ?_)
    rw [left_same hk6 hn16 hR6 (noP ms) ms (by omega) (by omega), hlen ms (by omega)]
    generalize hw : leftZ k n R ms = w
    have hwl : w.length = kindC k n := by rw [← hw]; exact hlen ms (by omega)
    rw [← hwl]
    rw [← hwl] at h0
    change Does Tryz.prog 46 _ _ _
    refine Does.on 5 [3, 4] _ _ (equalU (xs := w) (ys := w) (by rw [hwl]; omega) (fun _ => ?_) fun h => absurd rfl h)
    refine brc_intro (fun _ => fin rfl) (fun hz0 => ?_)
    have hz0 : ¬ 0 < w.length := by
      have h9 : ¬ (w.length : Int) > 0 := of_decide_eq_false hz0
      omega
    obtain ⟨rfl, rfl⟩ : k = 4 ∧ n = 1 := by
      rcases h0 with h0 | h0
      · exact absurd h0 hz0
      · exact h0
    exact fin rfl

end Go.Mac
