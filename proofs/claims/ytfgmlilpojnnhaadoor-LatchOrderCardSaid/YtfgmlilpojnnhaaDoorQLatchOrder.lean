/- A latch: what changes it takes one, and only by a swap. -/
import Derived.Test.YtfgmlilpojnnhaaDoorQLatched
open Go Go.Proofs Go.Mac
set_option maxRecDepth 100000
namespace Go.Mac

theorem gActL {l : List ActZ} {i : Nat} {x : ActZ} (h : l[i]? = some x) : (l.map rowAct)[0 + Int.toNat (i : Int)]? = some (rowAct x) := by simp [h]

theorem latchOrder (l : List (List Int)) (_hw : ∀ xs ∈ l, ∀ x ∈ xs, -9223372036854775808 ≤ x ∧ x ≤ 9223372036854775807) (hl : l.length ≤ 9223372036854775807) (hm : ∀ xs ∈ l, xs.length ≤ 9223372036854775807) (a : Int) (_ha : -9223372036854775808 ≤ a ∧ a ≤ 9223372036854775807) (ms : List MoveZ) :
    Does Tryd.prog 9 [cv (.slc 0 0 l.length none false), i64 a, cv (.slc 1 0 ms.length none false)] [.rows2 true 1 (l.map fun xs => xs.map rowZ), .rows true 2 (ms.map rowMove), rtH] fun v _ _ => v = bl true := by
  refine does Tryd.func9 rfl (by decide) ?_
  change Does Tryd.prog 32 _ _ _
  refine Does.alone 3 (latched ?_)
  refine brc_intro (fun _ => rfl) (fun h => ?_)
  have hms : ms.length ≤ 500 := by
    have := of_decide_eq_false h
    omega
  change Does Tryd.prog 16 _ _ _
  refine Does.alone 3 (pick a 12 (by decide) ?_)
  have hpa := pickZ_lt a (n := 12) (by decide)
  obtain ⟨f, hf⟩ := Int.eq_ofNat_of_zero_le hpa.1
  rw [hf]
  have hf12 : f < 12 := by omega
  clear hf hpa
  change Does Tryd.prog 27 _ _ _
  refine Does.on 4 [0, 3] _ _ (asks (l := l) (ofs := [1, 2]) (k := 2) rfl rfl (by decide) hl hm ?_)
  have hn : (asksZ [1, 2] l).length = min l.length 8 := asksZ_lenL _ _
  have hfit : ∀ x ∈ asksZ [1, 2] l, ∀ c ∈ x, latchFit c := fun x hx => by
    rw [asksZ] at hx
    obtain ⟨y, _, rfl⟩ := List.mem_map.1 hx
    exact asks_fitL [1, 2] y (by decide) (by decide)
  have hl12 : ∀ x ∈ asksZ [1, 2] l, x.length ≤ 12 := fun x hx => by
    rw [asksZ] at hx
    obtain ⟨y, _, rfl⟩ := List.mem_map.1 hx
    exact Nat.le_trans (askL_lenL _ _) (by decide)
  generalize asksZ [1, 2] l = calls at hn hfit hl12
  have hn8 : min l.length 8 ≤ 8 := by omega
  generalize min l.length 8 = n at hn hn8
  have hI := lat_moves (ll := calls.map fun l => l.map downs) (by rw [List.length_map]; omega) (fun l hl => by
    obtain ⟨k, hk, rfl⟩ := List.mem_map.1 hl
    rw [List.length_map]; exact hl12 k hk) (f := f) (by omega) ms
  rw [← latM_calls] at hI
  obtain ⟨z, hz⟩ : ∃ z, movesZ (mz0 (calls.map latchP) [(f : Int)]) ms = z := ⟨_, rfl⟩
  rw [hz] at hI
  have hu : IntKind.u64.wrap (f : Int) = f := wrap_u64 _ (by omega) (by omega)
  change Does Tryd.prog 17 _ _ _
  rw [hu]
  refine Does.on 6 [4, 5, 1] _ _ (made (ls := calls) (ps := calls.map latchP) (ws := [(f : Int)]) (ms := ms) (f := 33) (n := n) (nc := 1) (ro := false) (ro2 := false) (ro3 := true) hn (by rw [List.length_map]; exact hn) rfl rfl (by omega) (by decide) (by omega) (latch_rights hl12) (fun v hv => by obtain rfl := List.mem_singleton.1 hv; omega) (hz := hz) (fun i l p hl hp K' hK' => ?_) fun v hv hw => ?_)
  · obtain rfl : latchP l = p := by
      rw [List.getElem?_map, hl] at hp
      exact Option.some.inj hp
    exact latchCode' i i l hl (hl12 l (List.mem_of_getElem? hl)) (hfit l (List.mem_of_getElem? hl)) hK'
  · change Does Tryd.prog 20 _ _ _
    refine Does.on 15 [6, 7, 8, 9, 10, 11, 12, 13, 14] _ _ (fairFinish (m := z) (v := v) hw hv fun v1 _ hv1 hw1 => ?_)
    obtain ⟨gs, u, hJ, _⟩ := lat_fin hI (by omega)
    have hfo := hJ.fo
    clear hJ
    generalize finish z = z1 at hw1 hfo
    have hal1 := hw1.al
    have hk1 := hw1.k
    change Does Tryd.prog 25 _ _ _
    refine Does.on 15 [6, 7, 8, 9, 10, 11, 12, 13, 14] _ _ (coreActs (m := z1) (v := v1) (by omega) ?_)
    refine SS.loop (fun p : Nat => p ≤ z1.al.length) (fun p => [(32, cv (.slc 15 0 z1.al.length none false)), (33, i64 z1.al.length), (34, i64 p)])
      (fun _ => [.rows2 true 1 (l.map fun xs => xs.map rowZ), .rows true 2 (ms.map rowMove), rtH, .rows false 1 [rowZ 1, rowZ 2], callsH false calls, .rows false 1 [rowU f]] ++ machS 6 z1 v1 ++ [.rows false 6 (z1.al.map rowAct)]) (fun p => z1.al.length - p) [4, 12, 13, 14]
      (At.mk' [32, 33, 34] 0 (by simp) ⟨rfl, rfl⟩ rfl rfl (by simp) (by simp) (by decide)) ?_
    intro p hp
    change p ≤ z1.al.length at hp
    refine S_r ?_
    refine brc_intro (fun hlt => ?_) (fun hlt => ?_)
    · have hlt2 : p < z1.al.length := by
        have := of_decide_eq_true hlt
        have : (p : Int) < (z1.al.length : Int) := this
        omega
      obtain ⟨a, ha⟩ : ∃ a, z1.al[p]? = some a := ⟨_, List.getElem?_eq_getElem hlt2⟩
      have hA := hfo a (List.mem_of_getElem? ha)
      have wr : IntKind.i64.wrap ((p : Int) + 1) = ((p + 1 : Nat) : Int) := wrap_i64 _ (by omega) (by omega)
      refine SS.inlR ?_
      refine at2 (a := (0 : Int) ≤ (p : Int)) (b := (p : Int) < (z1.al.length : Int)) (by omega) (by omega) (rdA (rowAct a) (gActL ha) ?_)
      refine brc_intro (fun hyx => ?_) (fun hyx => ?_)
      · have hyx : a.y ≠ a.x := by simpa using hyx
        rcases hA with hA | ⟨h9, h0, h100, hy⟩
        · exact absurd hA hyx
        refine brc_intro (fun h => ?_) (fun _ => ?_)
        · exact absurd h9 (by simpa using h)
        refine brc_intro (fun h => ?_) (fun _ => ?_)
        · exact absurd (show a.x = 0 by simpa using h) (by omega)
        refine brc_intro (fun h => ?_) (fun _ => ?_)
        · have h : (a.y != IntKind.u64.wrap (a.x - 1)) = true := h
          rw [wrap_u64 (a.x - 1) (by omega) (by omega), hy] at h
          simp at h
        · refine At.mk' [32, 33, 34] (p + 1) ⟨hlt2, by show z1.al.length - (p + 1) < z1.al.length - p; omega⟩ ⟨?_, rfl⟩ rfl rfl (by simp) (by simp) (by decide)
          rw [wr]
      · refine At.mk' [32, 33, 34] (p + 1) ⟨hlt2, by show z1.al.length - (p + 1) < z1.al.length - p; omega⟩ ⟨?_, rfl⟩ rfl rfl (by simp) (by simp) (by decide)
        rw [wr]
    · change Does Tryd.prog 34 _ _ _
      refine Does.nilArg 2 (by decide) ?_
      refine Does.on 17 [16] _ _ (latchCode (ro := false) (l := []) (by decide) (fun c hc => by cases hc) ?_)
      exact rfl

end Go.Mac
