/- A script, its bytes, and the script that they are. -/
import Derived.Test.YtnkmddcadkcdcaaQScrE
open Go Go.Proofs Go.Mac
set_option maxRecDepth 100000
namespace Go.Mac

section
variable {K : AV → List Nat → List PO → Prop}

/-- slices.Equal of moves: the same ones. -/
theorem equalMv {ro1 ro2 : Bool} {xs : List MoveZ} {n : Nat} {c1 c2 : Option Nat} {nn1 nn2 : Bool} (hl : xs.length = n) (hn : n < 1000000)
    (h1 : K (bl true) [] ([.rows ro1 2 (xs.map rowMove), .rows ro2 2 (xs.map rowMove)])) :
    Does Try.prog 15 [cv (.slc 0 0 n c1 nn1), cv (.slc 1 0 n c2 nn2)] [.rows ro1 2 (xs.map rowMove), .rows ro2 2 (xs.map rowMove)] K := by
  refine does Try.func15 rfl (by decide) ?_
  refine brc_intro (fun h => ?_) (fun h => ?_)
  · simp at h
  refine SS.loop (fun i : Nat => i ≤ n) (fun i => [(0, cv (.slc 0 0 n c1 nn1)), (1, cv (.slc 1 0 n c2 nn2)), (12, i64 n), (13, i64 i)]) (fun _ => [.rows ro1 2 (xs.map rowMove), .rows ro2 2 (xs.map rowMove)]) (fun i => n - i) []
    (At.mk' [0, 1, 12, 13] 0 (by simp) ⟨rfl, rfl⟩ rfl rfl (by simp) (by simp) (by simp)) ?_
  intro i hi
  change i ≤ n at hi
  refine S_r ?_
  refine brc_intro (fun h => ?_) (fun h => ?_)
  · have hlt : i < n := by have := of_decide_eq_true h; omega
    refine SS.inlR ?_
    refine SS.drawR follows (by decide) ?_
    obtain ⟨x, hx⟩ : ∃ x, xs[i]? = some x := ⟨_, List.getElem?_eq_getElem (by omega)⟩
    refine at2 (by omega) (by omega) (rdA (rowMove x) (by simp [hx]) ?_)
    refine at2 (by omega) (by omega) (rdA (rowMove x) (by simp [hx]) ?_)
    refine And.intro (by decide +kernel) ?_
    refine brc_intro (fun h' => ?_) (fun h' => ?_)
    · simp at h'
    · refine At.mk' [0, 1, 12, 13] (i + 1) ⟨hlt, by omega⟩ ⟨?_, rfl⟩ rfl rfl (by simp) (by simp) (by simp)
      rw [wrap_i64 _ (by omega) (by omega)]
      rfl
  · exact h1

abbrev scrT0 : List UInt8 := [1, 2, 3, 5, 225]
abbrev scrT2 : List UInt8 := [1, 2, 3, 2, 225]
abbrev scrL : List MoveZ := [⟨2, false⟩, ⟨1, true⟩]

theorem decodeT (h : K (.p (.agg [.f (.int .i64 2), .f (.int .i64 3), .f (.int .i64 3), .slc 0 0 2 none false])) [] [.rows false 2 (scrL.map rowMove)]) :
    Does Try.prog 18 [st scrT0] [] K := by
  refine decode scrT0 (by decide) ?_
  rw [show scrK scrT0 = 2 by decide, show scrN scrT0 = 3 by decide, show scrR scrT0 = 3 by decide, show scrM scrT0 = scrL from rfl]
  exact h

theorem scripted (hK : K (bl true) [] []) : Does Try.prog 13 [] [] K := by
  refine does Try.func13 rfl (by decide) ?_
  change Does Try.prog 18 _ _ _
  refine Does.alone 0 (decodeT ?_)
  change Does Try.prog 17 _ _ _
  refine Does.on 2 [0] _ _ (encodeS (k := 2) (n := 3) (r := 3) (ms := scrL) (m := 2) ⟨by decide, by decide, by decide, by decide⟩ rfl (by decide) ?_)
  rw [show encT 2 3 3 scrL = scrT2 by decide]
  change Does Try.prog 15 _ _ _
  refine Does.on 3 [0, 2] _ _ (equalMv (xs := scrL) rfl (by decide) ?_)
  exact hK

theorem sameS {k n r : Int} {ms : List MoveZ} {m : Nat} {ro1 ro2 nn1 nn2 : Bool} {c1 c2 : Option Nat} (hm : ms.length = m) (hb : m < 1000000) (h : K (bl true) [] [.rows ro1 2 (ms.map rowMove), .rows ro2 2 (ms.map rowMove)]) :
    Does Try.prog 14 [.p (.agg [.f (.int .i64 k), .f (.int .i64 n), .f (.int .i64 r), .slc 0 0 m c1 nn1]), .p (.agg [.f (.int .i64 k), .f (.int .i64 n), .f (.int .i64 r), .slc 1 0 m c2 nn2])] [.rows ro1 2 (ms.map rowMove), .rows ro2 2 (ms.map rowMove)] K := by
  refine does Try.func14 rfl (by decide) ?_
  refine brc_intro (fun _ => ?_) (fun h => by simp at h)
  refine brc_intro (fun _ => ?_) (fun h => by simp at h)
  refine brc_intro (fun _ => ?_) (fun h => by simp at h)
  change Does Try.prog 15 _ _ _
  refine Does.on 4 [0, 1] _ _ (equalMv (xs := ms) hm hb ?_)
  exact h

end

theorem decodeN {t : List UInt8} {k n R : Int} {ms : List MoveZ} {m : Nat} {K : AV → List Nat → List PO → Prop} (ht : t.length ≤ 2000) (hk : scrK t = k) (hn : scrN t = n) (hr : scrR t = R) (hms : scrM t = ms) (hm : ms.length = m) (h : K (.p (.agg [.f (.int .i64 k), .f (.int .i64 n), .f (.int .i64 R), .slc 0 0 m none false])) [] [.rows false 2 (ms.map rowMove)]) :
    Does Try.prog 18 [st t] [] K := by
  refine decode t ht ?_
  rw [hk, hn, hr, hms, hm]
  exact h

set_option maxHeartbeats 2000000 in
theorem scriptBack (k n r : Int) (_hk : -9223372036854775808 ≤ k ∧ k ≤ 9223372036854775807) (_hn : -9223372036854775808 ≤ n ∧ n ≤ 9223372036854775807) (_hr : -9223372036854775808 ≤ r ∧ r ≤ 9223372036854775807) (ms : List MoveZ) (hms : ms.length ≤ 8796093022208) (t : List UInt8) (ht : t.length ≤ 140737488355328) :
    Does Try.prog 4 [.p (.agg [.f (.int .i64 k), .f (.int .i64 n), .f (.int .i64 r), .slc 0 0 ms.length none false]), st t] [.rows true 2 (ms.map rowMove)] fun v _ _ => v = bl true := by
  refine does Try.func4 rfl (by decide) ?_
  change Does Try.prog 13 _ _ _
  refine Does.alone 2 (scripted ?_)
  have wr : IntKind.i64.wrap ((ms.length : Int) + (t.length : Int)) = ((ms.length + t.length : Nat) : Int) := by rw [wrap_i64 _ (by omega) (by omega)]; omega
  refine brc_intro (fun _ => rfl) (fun h => ?_)
  have hl : ms.length + t.length ≤ 800 := by
    have h := of_decide_eq_false h
    have h : ¬ IntKind.i64.wrap ((ms.length : Int) + (t.length : Int)) > 800 := h
    rw [wr] at h
    omega
  have hx := scrK_in t
  have hx2 := scrN_in t
  have hx3 := scrR_in t
  have hxm := scrM_in t
  have hxl : (scrM t).length + 3 = max 3 t.length := by
    rw [scrM, List.length_map, List.length_drop, padB, List.length_append, List.length_replicate]
    omega
  have y1 := dec_enc hx hx2 hx3 hxm
  have y2 := encT_len (scrK t) (scrN t) (scrR t) (scrM t)
  have fin2 : bl (((encT (scrK t) (scrN t) (scrR t) (scrM t)).length : Int) == if (t.length : Int) > 3 then (t.length : Int) else 3) = bl true := by
    rw [y2]
    refine congrArg bl ?_
    rw [beq_iff_eq]
    split <;> omega
  change Does Try.prog 16 _ _ _
  refine Does.on 2 [0] _ _ (rightS (k := k) (n := n) (r := r) (ms := ms) (m := ms.length) rfl (by omega) (fun hB => ?_) ?_)
  · have hB' := hB
    obtain ⟨b1, b2, b3, b4⟩ := hB'
    obtain ⟨d1, d2, d3, d4⟩ := dec_enc b1 b2 b3 b4
    have hel := encT_len k n r ms
    change Does Try.prog 17 _ _ _
    refine Does.on 2 [0] _ _ (encodeS (m := ms.length) hB rfl (by omega) ?_)
    generalize encT k n r ms = u at d1 d2 d3 d4 hel ⊢
    refine SS.drawR follows (by decide) ?_
    refine brc_intro (fun h => ?_) (fun _ => ?_)
    · exfalso
      have h : ((u.length : Int) != IntKind.i64.wrap (3 + (ms.length : Int))) = true := h
      rw [wrap_i64 _ (by omega) (by omega), show (u.length : Int) = 3 + (ms.length : Int) by omega] at h
      simp at h
    change Does Try.prog 18 _ _ _
    refine Does.alone 2 (decodeN (by omega) d1 d2 d3 d4 rfl ?_)
    refine And.intro rfl (And.intro rfl ?_)
    change Does Try.prog 14 _ _ _
    refine Does.on 3 [2, 0] _ _ (sameS (k := k) (n := n) (r := r) (ms := ms) (m := ms.length) rfl (by omega) ?_)
    change Does Try.prog 18 _ _ _
    refine Does.alone 3 (decode t (by omega) ?_)
    change Does Try.prog 17 _ _ _
    refine Does.on 5 [3] _ _ (encodeS (m := (scrM t).length) ⟨hx, hx2, hx3, hxm⟩ rfl (by omega) ?_)
    refine SS.drawR follows (by decide) ?_
    change Does Try.prog 16 _ _ _
    refine Does.on 5 [3] _ _ (scrRight (k := scrK t) (n := scrN t) (r := scrR t) (ms := scrM t) (m := (scrM t).length) hx hx2 hx3 rfl (by omega) hxm ?_)
    repeat refine And.intro rfl ?_
    change Does Try.prog 18 _ _ _
    refine Does.alone 5 (decodeN (by omega) y1.1 y1.2.1 y1.2.2.1 y1.2.2.2 rfl ?_)
    repeat refine And.intro rfl ?_
    change Does Try.prog 14 _ _ _
    refine Does.on 6 [5, 3] _ _ (sameS (k := scrK t) (n := scrN t) (r := scrR t) (ms := scrM t) (m := (scrM t).length) rfl (by omega) ?_)
    repeat refine And.intro rfl ?_
    exact fin2
  · change Does Try.prog 18 _ _ _
    refine Does.alone 2 (decode t (by omega) ?_)
    change Does Try.prog 17 _ _ _
    refine Does.on 4 [2] _ _ (encodeS (m := (scrM t).length) ⟨hx, hx2, hx3, hxm⟩ rfl (by omega) ?_)
    refine SS.drawR follows (by decide) ?_
    change Does Try.prog 16 _ _ _
    refine Does.on 4 [2] _ _ (scrRight (k := scrK t) (n := scrN t) (r := scrR t) (ms := scrM t) (m := (scrM t).length) hx hx2 hx3 rfl (by omega) hxm ?_)
    repeat refine And.intro rfl ?_
    change Does Try.prog 18 _ _ _
    refine Does.alone 4 (decodeN (by omega) y1.1 y1.2.1 y1.2.2.1 y1.2.2.2 rfl ?_)
    repeat refine And.intro rfl ?_
    change Does Try.prog 14 _ _ _
    refine Does.on 5 [4, 2] _ _ (sameS (k := scrK t) (n := scrN t) (r := scrR t) (ms := scrM t) (m := (scrM t).length) rfl (by omega) ?_)
    repeat refine And.intro rfl ?_
    exact fin2

end Go.Mac
