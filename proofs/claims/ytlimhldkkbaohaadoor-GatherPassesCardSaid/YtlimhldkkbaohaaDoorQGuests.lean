/- Lists turned into what guests of a phaser ask. -/
import Derived.Test.YtlimhldkkbaohaaDoorGBase
import Derived.Test.YtlimhldkkbaohaaDoorGCutMade
open Go Go.Proofs Go.Mac
set_option maxRecDepth 100000
namespace Go.Mac

abbrev guestT : List CallZ := [⟨7, 0⟩, ⟨9, 0⟩, ⟨6, 1⟩, ⟨8, 0⟩, ⟨10, 0⟩, ⟨10, 1⟩, ⟨6, 3⟩, ⟨9, 0⟩, ⟨11, 0⟩, ⟨10, 2147483647⟩, ⟨7, 0⟩]
def guestC (x : Int) : CallZ := guestT.getD (pickZ x 11).toNat ⟨7, 0⟩
def guestJ (x : List Int) (j : Nat) : List CallZ := (x.take j).map guestC
def guestsZ (l : List (List Int)) : List (List CallZ) := (l.take 6).map fun x => guestJ x 6

theorem guestC_at (x : Int) : guestT[(pickZ x 11).toNat]? = some (guestC x) := by
  have h := pickZ_lt x (n := 11) (by decide)
  rw [guestC, List.getD_eq_getElem?_getD, List.getElem?_eq_getElem (by show (pickZ x 11).toNat < 11; omega)]
  rfl

theorem guestJ_succ {x : List Int} {j : Nat} {y : Int} (h : x[j]? = some y) : guestJ x (j + 1) = guestJ x j ++ [guestC y] := by
  rw [guestJ, List.take_add_one, h, List.map_append]
  rfl

theorem guestJ_len (x : List Int) (j : Nat) : (guestJ x j).length = min j x.length := by rw [guestJ, List.length_map, List.length_take]

theorem guestJ_min (x : List Int) : guestJ x (min x.length 6) = guestJ x 6 := by
  rw [guestJ, guestJ]
  congr 1
  rcases Nat.le_total x.length 6 with h | h
  · rw [Nat.min_eq_left h, List.take_of_length_le (Nat.le_refl _), List.take_of_length_le h]
  · rw [Nat.min_eq_right h]

section
variable {K : AV → List Nat → List PO → Prop}

set_option maxHeartbeats 1000000 in
theorem guests {l : List (List Int)} {n : Nat} {ro nn : Bool} (hl : l.length = n) (hn : n ≤ 9223372036854775807) (hm : ∀ x ∈ l, x.length ≤ 9223372036854775807)
    (h : K (cv (.slc 1 0 (min n 6) none false)) [] [.rows2 ro 1 (l.map fun xs => xs.map rowZ), callsH false (guestsZ l)]) :
    Does Tryd.prog 17 [cv (.slc 0 0 n none nn)] [.rows2 ro 1 (l.map fun xs => xs.map rowZ)] K := by
  refine Does.keep 1 rfl ?_
  refine does Tryd.func17 rfl (by decide) ?_
  have e6 : ∀ m : Nat, (if (6 : Int) < (m : Int) then (6 : Int) else (m : Int)) = ((min m 6 : Nat) : Int) := fun m => by split <;> omega
  refine at2 (by split <;> omega) (by split <;> omega) ?_
  rw [e6 n, Int.toNat_natCast]
  refine SS.nil2 3 2 rfl ?_
  have hlen : (guestsZ l).length = min n 6 := by rw [guestsZ, List.length_map, List.length_take, hl]; omega
  refine SS.loop (fun i : Nat => i ≤ min n 6) (fun i => [(3, cv (.slc 1 0 i none false)), (13, cv (.slc 0 0 (min n 6) none (nn || Nat.blt 0 n))), (14, i64 (min n 6 : Nat)), (15, i64 i)])
    (fun i => [.rows2 ro 1 (l.map fun xs => xs.map rowZ), callsH false ((guestsZ l).take i)]) (fun i => min n 6 - i) [1, 2, 3]
    (At.mk' [3, 13, 14, 15] 0 (by simp) ⟨rfl, rfl⟩ rfl rfl (by simp) (by simp) (by simp)) ?_
  intro i hi
  change i ≤ min n 6 at hi
  refine S_r ?_
  refine brc_intro (fun hlt => ?_) (fun hlt => ?_)
  · have hlt : i < min n 6 := by
      have := of_decide_eq_true hlt
      have : (i : Int) < ((min n 6 : Nat) : Int) := this
      omega
    obtain ⟨x, hx⟩ : ∃ x, l[i]? = some x := ⟨_, List.getElem?_eq_getElem (by omega)⟩
    have hxm : (l.map fun xs => xs.map rowZ)[0 + Int.toNat (i : Int)]? = some (x.map rowZ) := by simp [hx]
    have hxm2 : (l.map fun xs => xs.map rowZ)[i]? = some (x.map rowZ) := by simp [hx]
    have hxl : (x.map rowZ).length = x.length := by simp
    have hxb := hm x (List.mem_of_getElem? hx)
    have hil : i < (l.map fun xs => xs.map rowZ).length := by rw [List.length_map]; omega
    refine at2 (a := (0 : Int) ≤ (i : Int)) (b := (i : Int) < ((min n 6 : Nat) : Int)) (by omega) (by omega) ?_
    refine Exists.intro (x.map rowZ) (And.intro hxm ?_)
    rw [hxl, show 0 + Int.toNat (i : Int) = i from by simp]
    refine And.intro hil (at2 (by split <;> omega) (by split <;> omega) ?_)
    rw [e6 x.length, Int.toNat_natCast]
    refine SS.nil 6 2 (by decide) rfl ?_
    refine SS.loop (fun j : Nat => j ≤ min x.length 6) (fun j => [(3, cv (.slc 1 0 i none false)), (6, cv (.slc 2 0 j none false)), (13, cv (.slc 0 0 (min n 6) none (nn || Nat.blt 0 n))), (14, i64 (min n 6 : Nat)), (15, i64 i), (23, cv (.islc 0 i 0 (min x.length 6) none (Nat.blt 0 x.length))), (24, i64 (min x.length 6 : Nat)), (25, i64 j)])
      (fun j => [.rows2 ro 1 (l.map fun xs => xs.map rowZ), callsH false ((guestsZ l).take i), .rows false 2 ((guestJ x j).map rowCallZ)]) (fun j => min x.length 6 - j) [1, 2, 3]
      (At.mk' [3, 6, 13, 14, 15, 23, 24, 25] 0 (by simp) ⟨rfl, rfl⟩ rfl rfl (by simp) (by simp) (by simp)) ?_
    intro j hj
    change j ≤ min x.length 6 at hj
    have hjl : (guestJ x j).length = j := by rw [guestJ_len]; omega
    refine S_r ?_
    refine brc_intro (fun hlt2 => ?_) (fun hlt2 => ?_)
    · have hlt2 : j < min x.length 6 := by
        have := of_decide_eq_true hlt2
        have : (j : Int) < ((min x.length 6 : Nat) : Int) := this
        omega
      obtain ⟨y, hy⟩ : ∃ y, x[j]? = some y := ⟨_, List.getElem?_eq_getElem (by omega)⟩
      have hnx := guestJ_succ hy
      have hyr : (x.map rowZ)[0 + Int.toNat (j : Int)]? = some (rowZ y) := by simp [hy]
      refine And.intro hil (at2 (a := (0 : Int) ≤ (j : Int)) (b := (j : Int) < ((min x.length 6 : Nat) : Int)) (by omega) (by omega) ?_)
      refine Exists.intro (x.map rowZ) (Exists.intro (rowZ y) (Exists.intro (.int .i64 y) (And.intro hxm2 (And.intro hyr (And.intro rfl ?_)))))
      change Does Tryd.prog 18 _ _ _
      refine Does.alone 4 (pick y 11 (by decide) ?_)
      have hpy := pickZ_lt y (n := 11) (by decide)
      have hgc : (guestT.map rowCallZ)[0 + Int.toNat (pickZ y 11)]? = some (rowCallZ (guestC y)) := by rw [Nat.zero_add, List.getElem?_map, guestC_at]; rfl
      generalize pickZ y 11 = q at hpy hgc ⊢
      refine at2 (a := (0 : Int) ≤ q) (b := q < 11) hpy.1 hpy.2 (rdA (rowCallZ (guestC y)) hgc ?_)
      refine And.intro (by simp) (Or.inl (And.intro rfl (And.intro (by rw [List.length_map, hjl]) (And.intro (by show (j + 1) * 16 ≤ _; omega) (And.intro (by show j + 1 ≤ _; omega) ?_)))))
      refine At.mk' [3, 6, 13, 14, 15, 23, 24, 25] (j + 1) ⟨hlt2, by omega⟩ ⟨?_, rfl⟩ ?_ rfl (by simp) (by simp) (by decide)
      · rw [wrap_i64 (j + 1) (by omega) (by omega)]
        rfl
      · rw [hnx, List.map_append]
        rfl
    · have hlt2 : ¬ (j : Int) < ((min x.length 6 : Nat) : Int) := of_decide_eq_false hlt2
      have hje : j = min x.length 6 := by omega
      subst hje
      refine And.intro (by simp [hjl]) (And.intro rfl (And.intro (by rw [List.length_map, List.length_take]; omega) (at2 (by show (i + 1) * 24 ≤ _; omega) (by omega) ?_)))
      refine At.mk' [3, 13, 14, 15] (i + 1) ⟨hlt, by omega⟩ ⟨?_, rfl⟩ ?_ rfl (by simp) (by simp) (by decide)
      · rw [wrap_i64 (i + 1) (by omega) (by omega)]
        rfl
      · have e : (guestsZ l).take (i + 1) = (guestsZ l).take i ++ [guestJ x (min x.length 6)] := by
          have : (guestsZ l)[i]? = some (guestJ x (min x.length 6)) := by rw [guestsZ, List.getElem?_map, List.getElem?_take_of_lt (by omega), hx, guestJ_min]; rfl
          rw [List.take_add_one, this]; rfl
        rw [e, callsH, List.map_append]
        rfl
  · have hlt : ¬ (i : Int) < ((min n 6 : Nat) : Int) := of_decide_eq_false hlt
    obtain rfl : i = min n 6 := by omega
    rw [List.take_of_length_le (by omega)]
    exact ⟨2, [0, 1], _, _, rfl, rfl, by decide, by decide, rfl, rfl, rfl, rfl, rfl, h⟩

end
end Go.Mac
