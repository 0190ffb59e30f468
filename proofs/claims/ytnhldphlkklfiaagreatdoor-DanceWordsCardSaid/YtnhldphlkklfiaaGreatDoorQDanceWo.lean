/- As many cells as told, and none beyond. -/
import Derived.Test.YtnhldphlkklfiaaGreatDoorQCrowds
import Derived.Test.YtnhldphlkklfiaaGreatDoorQDanceL
import Derived.Test.YtnhldphlkklfiaaGreatDoorQStoreW
open Go Go.Proofs Go.Mac
set_option maxRecDepth 100000
namespace Go.Mac

section
variable {K : AV → List Nat → List PO → Prop}

theorem wordsIdx {al : List ActZ} {w n : Nat} {ro nn : Bool} {c : Option Nat} (hn : al.length = n) (hb : n ≤ 1000000) (he : ∀ a ∈ al, 0 ≤ a.c ∧ a.c < w) (h : K (i64 (-1)) [] [.rows ro 6 (al.map rowAct), .one [.f (.int .i64 w)]]) :
    Does Tryz.prog 71 [cv (.slc 0 0 n c nn), cv (.func 37 [1])] [.rows ro 6 (al.map rowAct), .one [.f (.int .i64 w)]] K := by
  refine does Tryz.func71 rfl (by decide) ?_
  refine SS.loop (fun i : Nat => i ≤ n) (fun i => [(0, cv (.slc 0 0 n c nn)), (1, cv (.func 37 [1])), (7, i64 n), (8, i64 i)]) (fun _ => [.rows ro 6 (al.map rowAct), .one [.f (.int .i64 w)]]) (fun i => n - i) []
    (At.mk' [0, 1, 7, 8] 0 (Nat.zero_le _) ⟨rfl, rfl⟩ rfl rfl (by simp) (by simp) (by simp)) ?_
  intro i hi
  change i ≤ n at hi
  refine S_r ?_
  refine brc_intro (fun hlt => ?_) (fun hlt => ?_)
  · have hlt : i < n := by
      have := of_decide_eq_true hlt
      have : (i : Int) < (n : Int) := this
      omega
    obtain ⟨x, hx⟩ : ∃ x, al[i]? = some x := ⟨_, List.getElem?_eq_getElem (by omega)⟩
    obtain ⟨q1, q2⟩ := he x (List.mem_of_getElem? hx)
    refine SS.inlR ?_
    refine at2 (a := (0 : Int) ≤ (i : Int)) (b := (i : Int) < (n : Int)) (by omega) (by omega) (rdA (rowAct x) (gActN hx) ?_)
    change Does Tryz.prog 37 _ _ _
    refine does Tryz.func37 rfl (by decide) ?_
    refine brc_intro (fun h => absurd (show x.c < 0 from of_decide_eq_true h) (by omega)) (fun _ => ?_)
    refine brc_intro (fun h => absurd (show x.c ≥ w from of_decide_eq_true h) (by omega)) (fun _ => ?_)
    refine At.mk' [0, 1, 7, 8] (i + 1) ⟨hlt, by omega⟩ ⟨?_, rfl⟩ rfl rfl (by simp) (by simp) (by simp)
    rw [wrap_i64 (i + 1) (by omega) (by omega)]
    rfl
  · exact h

theorem wordsAny {al : List ActZ} {w n : Nat} {ro nn : Bool} {c : Option Nat} (hn : al.length = n) (hb : n ≤ 1000000) (he : ∀ a ∈ al, 0 ≤ a.c ∧ a.c < w) (h : K (bl false) [] [.rows ro 6 (al.map rowAct), .one [.f (.int .i64 w)]]) :
    Does Tryz.prog 35 [cv (.slc 0 0 n c nn), cv (.func 37 [1])] [.rows ro 6 (al.map rowAct), .one [.f (.int .i64 w)]] K := by
  refine does Tryz.func35 rfl (by decide) ?_
  change Does Tryz.prog 71 _ _ _
  refine wordsIdx hn hb he ?_
  exact h

end

theorem danceWords (k : Int) (_hk : -9223372036854775808 ≤ k ∧ k ≤ 9223372036854775807) (n : Int) (_hn : -9223372036854775808 ≤ n ∧ n ≤ 9223372036854775807) (R : Int) (_hR : -9223372036854775808 ≤ R ∧ R ≤ 9223372036854775807) (ms : List MoveZ) :
    Does Tryz.prog 14 [i64 k, i64 n, i64 R, cv (.slc 0 0 ms.length none false)] [.rows true 2 (ms.map rowMove), rtH] fun v _ _ => v = bl true := by
  refine does Tryz.func14 rfl (by decide) ?_
  change Does Tryz.prog 20 _ _ _
  refine Does.on 2 [1] _ _ (danced ?_)
  refine brc_intro (fun _ => rfl) (fun h => ?_)
  have hms : ms.length ≤ 500 := by
    have := of_decide_eq_false h
    omega
  change Does Tryz.prog 21 _ _ _
  refine Does.alone 2 (ball k n R ?_)
  obtain ⟨k, hk, hk6⟩ := pick6 k
  obtain ⟨n, hn, hn16⟩ := pick16b n
  obtain ⟨R, hR, hR6⟩ := pick7 R
  rw [hk, hn, hR]
  obtain ⟨z, hz⟩ : ∃ z, movesZ (danceM k n R) (ms.map (pickM n)) = z := ⟨_, rfl⟩
  obtain ⟨A, V, hD⟩ := dance_moves hk6 hn16 (show R ≤ 20 by omega) (ms.map (pickM n))
  have hcell := dance_cells hk6 hn16 (show R ≤ 20 by omega) (ms.map (pickM n))
  rw [hz] at hD hcell
  have hws : z.ws.length = kindC k n := by rw [hD.abs.ws, cellsL_len]
  have hko := kindAll (R := R) hk6 hn16 (show R ≤ 20 by omega)
  have hn300 := hko.nc300
  clear hD
  change Does Tryz.prog 23 _ _ _
  refine Does.on 2 [0] _ _ (floor (k := k) (n := n) (R := R) (ms := ms) (z := z) hko rfl (by omega) hz fun v hv hw => ?_)
  have hal := hw.al
  have hkz := hw.k
  change Does Tryz.prog 34 _ _ _
  refine Does.alone 11 (danceCells (k := k) (n := n) (c := kindC k n) (by omega) hko.cells ?_)
  refine SS.drawR follows (by decide) ?_
  change Does Tryz.prog 29 _ _ _
  refine Does.on 12 [2, 3, 4, 5, 6, 7, 8, 9, 10] _ _ (coreCellsL (m := z) (v := v) hw rfl ?_)
  repeat' (first | refine And.intro rfl ?_ | fail)
  refine brc_intro (fun _ => ?_) (fun h => ?_)
  · refine And.intro ?_ ?_
    all_goals
      repeat' (first | refine And.intro rfl ?_ | fail)
      change Does Tryz.prog 36 _ _ _
      refine Does.on 13 [2, 3, 4, 5, 6, 7, 8, 9, 10] _ _ (coreActs (m := z) (v := v) (by omega) ?_)
      repeat' (first | refine And.intro rfl ?_ | fail)
      change Does Tryz.prog 35 _ _ _
      refine Does.on 14 [13, 11] _ _ (wordsAny (al := z.al) (w := kindC k n) rfl (by omega) hcell ?_)
      repeat' (first | refine And.intro rfl ?_ | fail)
      rfl
  · exfalso
    have h : ((z.ws.length : Int) == (kindC k n : Int)) = false := h
    rw [hws] at h
    simp at h

end Go.Mac
