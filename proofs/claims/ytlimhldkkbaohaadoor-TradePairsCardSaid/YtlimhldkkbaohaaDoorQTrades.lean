/- Lists turned into trades. -/
import Derived.Test.YtlimhldkkbaohaaDoorGBase
import Derived.Test.YtlimhldkkbaohaaDoorGCutMade
open Go Go.Proofs Go.Mac
set_option maxRecDepth 100000
namespace Go.Mac

/-- One thread's trades. -/
def tradJ (i j : Nat) : List CallZ := (List.range j).map fun (k : Nat) => ⟨5, 10 * (i : Int) + (k : Int)⟩
def tradesZ (l : List (List Int)) : List (List CallZ) := (l.take 8).mapIdx fun i x => tradJ i (min x.length 6)

theorem tradJ_succ (i j : Nat) : tradJ i (j + 1) = tradJ i j ++ [⟨5, 10 * i + j⟩] := by
  rw [tradJ, List.range_succ, List.map_append]
  rfl

theorem tradJ_len (i j : Nat) : (tradJ i j).length = j := by simp [tradJ]

section
variable {K : AV → List Nat → List PO → Prop}

theorem trades {l : List (List Int)} {n : Nat} {ro : Bool} (hl : l.length = n) (hn : n ≤ 9223372036854775807) (hm : ∀ x ∈ l, x.length ≤ 9223372036854775807)
    (h : K (cv (.slc 1 0 (min n 8) none false)) [] [.rows2 ro 1 (l.map fun xs => xs.map rowZ), callsH false (tradesZ l)]) :
    Does Tryd.prog 42 [cv (.slc 0 0 n none false)] [.rows2 ro 1 (l.map fun xs => xs.map rowZ)] K := by
  refine Does.keep 1 rfl ?_
  refine does Tryd.func42 rfl (by decide) ?_
  have e8 : ∀ m : Nat, (if (8 : Int) < (m : Int) then (8 : Int) else (m : Int)) = ((min m 8 : Nat) : Int) := fun m => by split <;> omega
  have e6 : ∀ m : Nat, (if (6 : Int) < (m : Int) then (6 : Int) else (m : Int)) = ((min m 6 : Nat) : Int) := fun m => by split <;> omega
  refine at2 (by split <;> omega) (by split <;> omega) ?_
  rw [e8 n, Int.toNat_natCast]
  refine SS.nil2 3 2 rfl ?_
  have hlen : (tradesZ l).length = min n 8 := by rw [tradesZ, List.length_mapIdx, List.length_take, hl]; omega
  refine SS.loop (fun i : Nat => i ≤ min n 8) (fun i => [(3, cv (.slc 1 0 i none false)), (12, cv (.slc 0 0 (min n 8) none (Nat.blt 0 n))), (13, i64 (min n 8 : Nat)), (14, i64 i)])
    (fun i => [.rows2 ro 1 (l.map fun xs => xs.map rowZ), callsH false ((tradesZ l).take i)]) (fun i => min n 8 - i) [1, 2, 3]
    (At.mk' [3, 12, 13, 14] 0 (by simp) ⟨rfl, rfl⟩ rfl rfl (by simp) (by simp) (by simp)) ?_
  intro i hi
  change i ≤ min n 8 at hi
  refine S_r ?_
  refine brc_intro (fun hlt => ?_) (fun hlt => ?_)
  · have hlt : i < min n 8 := by
      have := of_decide_eq_true hlt
      have : (i : Int) < ((min n 8 : Nat) : Int) := this
      omega
    obtain ⟨x, hx⟩ : ∃ x, l[i]? = some x := ⟨_, List.getElem?_eq_getElem (by omega)⟩
    have hxm : (l.map fun xs => xs.map rowZ)[0 + Int.toNat (i : Int)]? = some (x.map rowZ) := by simp [hx]
    have hxl : (x.map rowZ).length = x.length := by simp
    have hxb := hm x (List.mem_of_getElem? hx)
    refine at2 (a := (0 : Int) ≤ (i : Int)) (b := (i : Int) < ((min n 8 : Nat) : Int)) (by omega) (by omega) ?_
    refine Exists.intro (x.map rowZ) (And.intro hxm ?_)
    rw [hxl, show 0 + Int.toNat (i : Int) = i from by simp]
    refine And.intro (by rw [List.length_map]; omega) (at2 (by split <;> omega) (by split <;> omega) ?_)
    rw [e6 x.length, Int.toNat_natCast]
    refine SS.nil 6 2 (by decide) rfl ?_
    refine SS.loop (fun j : Nat => j ≤ min x.length 6) (fun j => [(3, cv (.slc 1 0 i none false)), (4, i64 i), (6, cv (.slc 2 0 j none false)), (12, cv (.slc 0 0 (min n 8) none (Nat.blt 0 n))), (13, i64 (min n 8 : Nat)), (14, i64 i), (23, cv (.islc 0 i 0 (min x.length 6) none (Nat.blt 0 x.length))), (24, i64 (min x.length 6 : Nat)), (25, i64 j)])
      (fun j => [.rows2 ro 1 (l.map fun xs => xs.map rowZ), callsH false ((tradesZ l).take i), .rows false 2 ((tradJ i j).map rowCallZ)]) (fun j => min x.length 6 - j) [1, 2, 3]
      (At.mk' [3, 4, 6, 12, 13, 14, 23, 24, 25] 0 (by simp) ⟨rfl, rfl⟩ rfl rfl (by simp) (by simp) (by simp)) ?_
    intro j hj
    change j ≤ min x.length 6 at hj
    have hjl : (tradJ i j).length = j := tradJ_len i j
    refine S_r ?_
    refine brc_intro (fun hlt2 => ?_) (fun hlt2 => ?_)
    · have hlt2 : j < min x.length 6 := by
        have := of_decide_eq_true hlt2
        have : (j : Int) < ((min x.length 6 : Nat) : Int) := this
        omega
      have hnx := tradJ_succ i j
      have hw10 : IntKind.i64.wrap (10 * (i : Int)) = 10 * (i : Int) := wrap_i64 _ (by omega) (by omega)
      have hwj : IntKind.i64.wrap (IntKind.i64.wrap (10 * (i : Int)) + (j : Int)) = 10 * (i : Int) + (j : Int) := by rw [hw10, wrap_i64 _ (by omega) (by omega)]
      refine And.intro (by simp) (Or.inl (And.intro rfl (And.intro (by rw [List.length_map, hjl]) (And.intro (by show (j + 1) * 16 ≤ _; omega) (And.intro (by show j + 1 ≤ _; omega) ?_)))))
      refine At.mk' [3, 4, 6, 12, 13, 14, 23, 24, 25] (j + 1) ⟨hlt2, by omega⟩ ⟨?_, rfl⟩ ?_ rfl (by simp) (by simp) (by decide)
      · rw [wrap_i64 (j + 1) (by omega) (by omega)]
        rfl
      · rw [hnx, List.map_append, ← hwj]
        rfl
    · have hlt2 : ¬ (j : Int) < ((min x.length 6 : Nat) : Int) := of_decide_eq_false hlt2
      have hje : j = min x.length 6 := by omega
      subst hje
      have hll : (tradJ i (min x.length 6)).length = min x.length 6 := hjl
      refine And.intro (by simp [hll]) (And.intro rfl (And.intro (by rw [List.length_map, List.length_take]; omega) (at2 (by show (i + 1) * 24 ≤ _; omega) (by omega) ?_)))
      refine At.mk' [3, 12, 13, 14] (i + 1) ⟨hlt, by omega⟩ ⟨?_, rfl⟩ ?_ rfl (by simp) (by simp) (by decide)
      · rw [wrap_i64 (i + 1) (by omega) (by omega)]
        rfl
      · have e : (tradesZ l).take (i + 1) = (tradesZ l).take i ++ [tradJ i (min x.length 6)] := by
          have : (tradesZ l)[i]? = some (tradJ i (min x.length 6)) := by rw [tradesZ, List.getElem?_mapIdx, List.getElem?_take_of_lt (by omega), hx]; rfl
          rw [List.take_add_one, this]; rfl
        rw [e, callsH, List.map_append]
        rfl
  · have hlt : ¬ (i : Int) < ((min n 8 : Nat) : Int) := of_decide_eq_false hlt
    obtain rfl : i = min n 8 := by omega
    rw [List.take_of_length_le (by omega)]
    exact ⟨2, [0, 1], _, _, rfl, rfl, by decide, by decide, rfl, rfl, rfl, rfl, rfl, h⟩

end
end Go.Mac
