/- Numbers turned into calls of those who look, or change. -/
import Derived.Test.YtnkmddcadkcdcaaDoorGBase
import Derived.Test.YtnkmddcadkcdcaaDoorQMade
open Go Go.Proofs Go.Mac
set_option maxRecDepth 100000
namespace Go.Mac

/-- One number's calls; one thread's. -/
def look2 (n : Int) : List CallZ := if Int.tmod n 3 = 0 then [⟨16, 0⟩, ⟨17, 0⟩] else [⟨14, 0⟩, ⟨15, 0⟩]
def lookJ (x : List Int) (j : Nat) : List CallZ := ((x.take j).map look2).flatten
def lookL (x : List Int) : List CallZ := lookJ x 6
def lookersZ (l : List (List Int)) : List (List CallZ) := (l.take 8).map lookL

theorem look2_len (n : Int) : (look2 n).length = 2 := by rw [look2]; split <;> rfl

theorem lookJ_succ {x : List Int} {j : Nat} {y : Int} (h : x[j]? = some y) : lookJ x (j + 1) = lookJ x j ++ look2 y := by
  rw [lookJ, List.take_add_one, h, List.map_append, List.flatten_append]
  simp [lookJ]

theorem lookJ_len : ∀ {j : Nat} {x : List Int}, j ≤ x.length → (lookJ x j).length = 2 * j
  | 0, x, _ => by simp [lookJ]
  | j + 1, x, h => by
    obtain ⟨y, hy⟩ : ∃ y, x[j]? = some y := ⟨_, List.getElem?_eq_getElem (by omega)⟩
    rw [lookJ_succ hy, List.length_append, lookJ_len (by omega), look2_len]
    omega

theorem lookJ_all {x : List Int} {j : Nat} (h : j = min x.length 6) : lookJ x j = lookL x := by
  rw [lookL, lookJ, lookJ]
  subst h
  rcases Nat.le_total x.length 6 with h | h
  · rw [Nat.min_eq_left h, List.take_length, List.take_of_length_le h]
  · rw [Nat.min_eq_right h]

section
variable {K : AV → List Nat → List PO → Prop}

theorem lookers {l : List (List Int)} {n : Nat} {ro : Bool} (hl : l.length = n) (hn : n ≤ 9223372036854775807) (hm : ∀ x ∈ l, x.length ≤ 9223372036854775807)
    (h : K (cv (.slc 1 0 (min n 8) none false)) [] [.rows2 ro 1 (l.map fun xs => xs.map rowZ), callsH false (lookersZ l)]) :
    Does Tryd.prog 45 [cv (.slc 0 0 n none false)] [.rows2 ro 1 (l.map fun xs => xs.map rowZ)] K := by
  refine Does.keep 1 rfl ?_
  refine does Tryd.func45 rfl (by decide) ?_
  have e8 : ∀ m : Nat, (if (8 : Int) < (m : Int) then (8 : Int) else (m : Int)) = ((min m 8 : Nat) : Int) := fun m => by split <;> omega
  have e6 : ∀ m : Nat, (if (6 : Int) < (m : Int) then (6 : Int) else (m : Int)) = ((min m 6 : Nat) : Int) := fun m => by split <;> omega
  refine at2 (by split <;> omega) (by split <;> omega) ?_
  rw [e8 n, Int.toNat_natCast]
  refine SS.nil2 3 2 rfl ?_
  have hlen : (lookersZ l).length = min n 8 := by rw [lookersZ, List.length_map, List.length_take, hl]; omega
  refine SS.loop (fun i : Nat => i ≤ min n 8) (fun i => [(3, cv (.slc 1 0 i none false)), (13, cv (.slc 0 0 (min n 8) none (Nat.blt 0 n))), (14, i64 (min n 8 : Nat)), (15, i64 i)])
    (fun i => [.rows2 ro 1 (l.map fun xs => xs.map rowZ), callsH false ((lookersZ l).take i)]) (fun i => min n 8 - i) [1, 2, 3]
    (At.mk' [3, 13, 14, 15] 0 (by simp) ⟨rfl, rfl⟩ rfl rfl (by simp) (by simp) (by simp)) ?_
  intro i hi
  change i ≤ min n 8 at hi
  refine S_r ?_
  refine brc_intro (fun hlt => ?_) (fun hlt => ?_)
  · have hlt : i < min n 8 := by
      have := of_decide_eq_true hlt
      have : (i : Int) < ((min n 8 : Nat) : Int) := this
      omega
    obtain ⟨x, hx⟩ : ∃ x, l[i]? = some x := ⟨_, List.getElem?_eq_getElem (by omega)⟩
    have hxm : (l.map fun xs => xs.map rowZ)[0 + Int.toNat (i : Int)]? = some (x.map rowZ) := by simp [hx]
    have hxl : (x.map rowZ).length = x.length := by simp
    have hxb := hm x (List.mem_of_getElem? hx)
    refine at2 (a := (0 : Int) ≤ (i : Int)) (b := (i : Int) < ((min n 8 : Nat) : Int)) (by omega) (by omega) ?_
    refine Exists.intro (x.map rowZ) (And.intro hxm ?_)
    rw [hxl, show 0 + Int.toNat (i : Int) = i from by simp]
    refine And.intro (by rw [List.length_map]; omega) (at2 (by split <;> omega) (by split <;> omega) ?_)
    rw [e6 x.length, Int.toNat_natCast]
    refine SS.nil 6 2 (by decide) rfl ?_
    refine SS.loop (fun j : Nat => j ≤ min x.length 6) (fun j => [(3, cv (.slc 1 0 i none false)), (6, cv (.slc 2 0 (2 * j) none false)), (13, cv (.slc 0 0 (min n 8) none (Nat.blt 0 n))), (14, i64 (min n 8 : Nat)), (15, i64 i), (23, cv (.islc 0 i 0 (min x.length 6) none (Nat.blt 0 x.length))), (24, i64 (min x.length 6 : Nat)), (25, i64 j)])
      (fun j => [.rows2 ro 1 (l.map fun xs => xs.map rowZ), callsH false ((lookersZ l).take i), .rows false 2 ((lookJ x j).map rowCallZ)]) (fun j => min x.length 6 - j) [1, 2, 3]
      (At.mk' [3, 6, 13, 14, 15, 23, 24, 25] 0 (by simp) ⟨rfl, rfl⟩ rfl rfl (by simp) (by simp) (by simp)) ?_
    intro j hj
    change j ≤ min x.length 6 at hj
    have hjl : (lookJ x j).length = 2 * j := lookJ_len (by omega)
    refine S_r ?_
    refine brc_intro (fun hlt2 => ?_) (fun hlt2 => ?_)
    · have hlt2 : j < min x.length 6 := by
        have := of_decide_eq_true hlt2
        have : (j : Int) < ((min x.length 6 : Nat) : Int) := this
        omega
      obtain ⟨y, hy⟩ : ∃ y, x[j]? = some y := ⟨_, List.getElem?_eq_getElem (by omega)⟩
      have hym : (x.map rowZ)[0 + Int.toNat (j : Int)]? = some (rowZ y) := by simp [hy]
      have hnx := lookJ_succ hy
      refine SS.inlR ?_
      refine And.intro (by rw [List.length_map]; omega) (at2 (a := (0 : Int) ≤ (j : Int)) (b := (j : Int) < ((min x.length 6 : Nat) : Int)) (by omega) (by omega) ?_)
      refine Exists.intro (x.map rowZ) (Exists.intro (rowZ y) (Exists.intro (.int .i64 y) (And.intro (by simp [hx]) (And.intro hym (And.intro rfl ?_)))))
      refine brc_intro (fun hp => ?_) (fun hp => ?_)
      · have hp : Int.tmod y 3 = 0 := by simpa using hp
        rw [look2, if_pos hp] at hnx
        refine And.intro (by simp) (Or.inl (And.intro rfl (And.intro (by rw [List.length_map, hjl]) (And.intro (by show (2 * j + 2) * 16 ≤ _; omega) (And.intro (by show 2 * j + 2 ≤ _; omega) ?_)))))
        refine At.mk' [3, 6, 13, 14, 15, 23, 24, 25] (j + 1) ⟨hlt2, by omega⟩ ⟨?_, rfl⟩ ?_ rfl (by simp) (by simp) (by decide)
        · rw [wrap_i64 (j + 1) (by omega) (by omega)]
          rfl
        · rw [hnx, List.map_append]
          rfl
      · have hp : ¬ Int.tmod y 3 = 0 := by simpa using hp
        rw [look2, if_neg hp] at hnx
        refine And.intro (by simp) (Or.inl (And.intro rfl (And.intro (by rw [List.length_map, hjl]) (And.intro (by show (2 * j + 2) * 16 ≤ _; omega) (And.intro (by show 2 * j + 2 ≤ _; omega) ?_)))))
        refine At.mk' [3, 6, 13, 14, 15, 23, 24, 25] (j + 1) ⟨hlt2, by omega⟩ ⟨?_, rfl⟩ ?_ rfl (by simp) (by simp) (by decide)
        · rw [wrap_i64 (j + 1) (by omega) (by omega)]
          rfl
        · rw [hnx, List.map_append]
          rfl
    · have hlt2 : ¬ (j : Int) < ((min x.length 6 : Nat) : Int) := of_decide_eq_false hlt2
      have hje : j = min x.length 6 := by omega
      rw [lookJ_all hje]
      have hll : (lookL x).length = 2 * j := by rw [← lookJ_all hje]; exact hjl
      refine And.intro (by simp [hll]) (And.intro rfl (And.intro (by rw [List.length_map, List.length_take]; omega) (at2 (by show (i + 1) * 24 ≤ _; omega) (by omega) ?_)))
      refine At.mk' [3, 13, 14, 15] (i + 1) ⟨hlt, by omega⟩ ⟨?_, rfl⟩ ?_ rfl (by simp) (by simp) (by decide)
      · rw [wrap_i64 (i + 1) (by omega) (by omega)]
        rfl
      · have e : (lookersZ l).take (i + 1) = (lookersZ l).take i ++ [lookL x] := by
          have : (lookersZ l)[i]? = some (lookL x) := by rw [lookersZ, List.getElem?_map, List.getElem?_take_of_lt (by omega), hx]; rfl
          rw [List.take_add_one, this]; rfl
        rw [e, callsH, List.map_append]
        rfl
  · have hlt : ¬ (i : Int) < ((min n 8 : Nat) : Int) := of_decide_eq_false hlt
    obtain rfl : i = min n 8 := by omega
    rw [List.take_of_length_le (by omega)]
    exact ⟨2, [0, 1], _, _, rfl, rfl, by decide, by decide, rfl, rfl, rfl, rfl, rfl, h⟩

end
end Go.Mac
