/- An offer is made where there is none, and taken by another. -/
import Derived.Test.YtnkmddcadkcdcaaDoorQTrL
open Go Go.Proofs Go.Mac
set_option maxRecDepth 100000
namespace Go.Mac

theorem gActT {l : List ActZ} {i : Nat} {x : ActZ} (h : l[i]? = some x) : (l.map rowAct)[0 + Int.toNat (i : Int)]? = some (rowAct x) := by simp [h]

def lowZ (r : Int) : Int := IntKind.i64.wrap (IntKind.i64.wrap (IntKind.u64.wrap ↑(BitVec.ofInt IntKind.u64.bits r &&& BitVec.ofInt IntKind.u64.bits 65535).toNat) - 1)

theorem low_all : ∀ p : Fin 9, ∀ N : Fin 101, lowZ ((p.val : Int) + (N.val : Int) * 65536) = (p.val : Int) - 1 := by decide +kernel

theorem low_wd {r : Int} (h : wd 8 r) : lowZ r = r % 65536 - 1 := by
  obtain ⟨p, N, h1, h2, h3, h4, rfl⟩ := h
  have := low_all ⟨p, by omega⟩ ⟨N, by omega⟩
  dsimp only at this
  rw [this]
  omega

set_option maxHeartbeats 2000000 in
theorem tradeSlots (l : List (List Int)) (_hw : ∀ xs ∈ l, ∀ x ∈ xs, -9223372036854775808 ≤ x ∧ x ≤ 9223372036854775807) (hl : l.length ≤ 9223372036854775807) (hm : ∀ xs ∈ l, xs.length ≤ 9223372036854775807) (ms : List MoveZ) :
    Does Tryd.prog 14 [cv (.slc 0 0 l.length none false), cv (.slc 1 0 ms.length none false)] [.rows2 true 1 (l.map fun xs => xs.map rowZ), .rows true 2 (ms.map rowMove), rtH] fun v _ _ => v = bl true := by
  refine does Tryd.func14 rfl (by decide) ?_
  change Does Tryd.prog 49 _ _ _
  refine Does.alone 3 (swapped ?_)
  refine brc_intro (fun _ => rfl) (fun h => ?_)
  have hms : ms.length ≤ 500 := by
    have := of_decide_eq_false h
    omega
  change Does Tryd.prog 50 _ _ _
  refine Does.on 3 [0] _ _ (trades (l := l) rfl hl hm ?_)
  obtain ⟨hn, hpl, hr, hpi, hI⟩ := trades_made l ms
  have hfit := fun i x => trades_fit l (i := i) (x := x)
  generalize tradesZ l = calls at hn hpi hfit ⊢
  generalize ((trdsL l).map fun l => catP (l.map trdB)) = ps at hpl hr hpi hI
  generalize lsQ (trdsL l) = lq at hI
  have hn8 : min l.length 8 ≤ 8 := by omega
  generalize min l.length 8 = n at hn hpl hn8 hI ⊢
  obtain ⟨z, hz⟩ : ∃ z, movesZ (mz0 ps slots0) ms = z := ⟨_, rfl⟩
  rw [hz] at hI
  refine And.intro (by decide) (And.intro (by decide) (And.intro (by decide) (And.intro (by decide) ?_)))
  change Does Tryd.prog 24 _ _ _
  refine Does.on 5 [3, 4, 1] _ _ (made (ls := calls) (ps := ps) (ws := slots0) (ms := ms) (f := 51) (n := n) (nc := 17) (ro := false) (ro2 := false) (ro3 := true) hn hpl rfl rfl (by omega) (by decide) (by omega) hr (by decide) (hz := hz) (fun i x p hx hp K' hK' => ?_) fun v hv hw => ?_)
  · obtain ⟨hi8, j, hj, rfl⟩ := hfit i x hx
    obtain rfl := hpi i _ p hx hp
    exact tradeCode' i (by omega) i _ hx (by rw [tradJ_len]; omega) (tradJ_fit hi8 hj) hK'
  obtain ⟨gs, wz, hJ⟩ := hI
  have hfo := hJ.fo
  clear hJ hz hr hpi
  have hal1 := hw.al
  have hk1 := hw.k
  change Does Tryd.prog 28 _ _ _
  refine Does.on 14 [5, 6, 7, 8, 9, 10, 11, 12, 13] _ _ (coreActs (m := z) (v := v) (by omega) ?_)
  refine SS.loop (fun p : Nat => p ≤ z.al.length) (fun p => [(24, cv (.slc 14 0 z.al.length none false)), (25, i64 z.al.length), (26, i64 p)])
    (fun _ => [.rows2 true 1 (l.map fun xs => xs.map rowZ), .rows true 2 (ms.map rowMove), rtH, callsH false calls, .rows false 1 (slots0.map rowU)] ++ machS 5 z v ++ [.rows false 6 (z.al.map rowAct)]) (fun p => z.al.length - p) [2, 11, 12, 13]
    (At.mk' [24, 25, 26] 0 (by simp) ⟨rfl, rfl⟩ rfl rfl (by simp) (by simp) (by decide)) ?_
  intro p hp
  change p ≤ z.al.length at hp
  refine S_r ?_
  refine brc_intro (fun hlt => ?_) (fun hlt => ?_)
  · have hlt2 : p < z.al.length := by
      have := of_decide_eq_true hlt
      have : (p : Int) < (z.al.length : Int) := this
      omega
    obtain ⟨a, ha⟩ : ∃ a, z.al[p]? = some a := ⟨_, List.getElem?_eq_getElem hlt2⟩
    have hA := hfo a (List.mem_of_getElem? ha)
    have wr : IntKind.i64.wrap ((p : Int) + 1) = ((p + 1 : Nat) : Int) := wrap_i64 _ (by omega) (by omega)
    refine SS.inlR ?_
    refine at2 (a := (0 : Int) ≤ (p : Int)) (b := (p : Int) < (z.al.length : Int)) (by omega) (by omega) (rdA (rowAct a) (gActT ha) ?_)
    refine brc_intro (fun hc => ?_) (fun hc => ?_)
    · refine At.mk' [24, 25, 26] (p + 1) ⟨hlt2, by show z.al.length - (p + 1) < z.al.length - p; omega⟩ ⟨?_, rfl⟩ rfl rfl (by simp) (by simp) (by decide)
      rw [wr]
    refine brc_intro (fun hxy => ?_) (fun hxy => ?_)
    · refine At.mk' [24, 25, 26] (p + 1) ⟨hlt2, by show z.al.length - (p + 1) < z.al.length - p; omega⟩ ⟨?_, rfl⟩ rfl rfl (by simp) (by simp) (by decide)
      rw [wr]
    have hc0 : a.c = 0 := by simpa using hc
    have hxy0 : a.x ≠ a.y := by simpa using hxy
    rcases hA with hA | hA | ⟨h9, hA⟩
    · exact absurd hc0 hA
    · exact absurd hA hxy0
    refine brc_intro (fun ho => ?_) (fun ho => ?_)
    · exact absurd h9 (by simpa using ho)
    rcases hA with ⟨hx0, hwd, hmt⟩ | ⟨hy0, hwd, hmt⟩
    · refine brc_intro (fun h => ?_) (fun _ => ?_)
      · exact absurd hx0 (by simpa using h)
      refine brc_intro (fun h => ?_) (fun h => ?_)
      · refine brc_intro (fun h => ?_) (fun h => ?_)
        · exfalso
          have h : (lowZ a.y != a.t) = true := h
          rw [low_wd hwd, hmt, show a.t + 1 - 1 = a.t by omega] at h
          simp at h
        · refine brc_intro (fun h => ?_) (fun h => ?_)
          · exact absurd hx0 (by simpa using h)
          refine At.mk' [24, 25, 26] (p + 1) ⟨hlt2, by show z.al.length - (p + 1) < z.al.length - p; omega⟩ ⟨?_, rfl⟩ rfl rfl (by simp) (by simp) (by decide)
          rw [wr]
      · exfalso
        have h : (a.y != 0) = false := h
        have := wd_big hwd
        have h : a.y = 0 := by simpa using h
        omega
    · refine brc_intro (fun h => ?_) (fun h => ?_)
      · refine brc_intro (fun h => ?_) (fun h => ?_)
        · exact absurd hy0 (by simpa using h)
        refine brc_intro (fun h => ?_) (fun h => ?_)
        · exact absurd hy0 (by simpa using h)
        refine brc_intro (fun h => ?_) (fun h => ?_)
        · refine brc_intro (fun h => ?_) (fun h => ?_)
          · exfalso
            have h : (lowZ a.x == a.t) = true := h
            rw [low_wd hwd] at h
            have h : a.x % 65536 - 1 = a.t := by simpa using h
            omega
          · refine At.mk' [24, 25, 26] (p + 1) ⟨hlt2, by show z.al.length - (p + 1) < z.al.length - p; omega⟩ ⟨?_, rfl⟩ rfl rfl (by simp) (by simp) (by decide)
            rw [wr]
        · refine At.mk' [24, 25, 26] (p + 1) ⟨hlt2, by show z.al.length - (p + 1) < z.al.length - p; omega⟩ ⟨?_, rfl⟩ rfl rfl (by simp) (by simp) (by decide)
          rw [wr]
      · exfalso
        have h : (a.x != 0) = false := h
        have := wd_big hwd
        have h : a.x = 0 := by simpa using h
        omega
  · exact rfl

end Go.Mac
