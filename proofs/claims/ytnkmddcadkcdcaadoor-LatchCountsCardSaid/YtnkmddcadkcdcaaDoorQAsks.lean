/- Numbers turned into calls. -/
import Derived.Test.YtnkmddcadkcdcaaDoorGBase
import Derived.Test.YtnkmddcadkcdcaaDoorQMade
open Go Go.Proofs Go.Mac
set_option maxRecDepth 100000
namespace Go.Mac

/-- One thread's calls, by numbers. -/
def askL (ofs : List Int) (x : List Int) : List CallZ := (x.take 8).map fun n => ⟨ofs.getD (pickZ n ofs.length).toNat 0, 0⟩
def asksZ (ofs : List Int) (l : List (List Int)) : List (List CallZ) := (l.take 8).map (askL ofs)

section
variable {K : AV → List Nat → List PO → Prop}

theorem asks {l : List (List Int)} {ofs : List Int} {n k : Nat} {ro ro2 nn2 : Bool} {c2 : Option Nat} (hl : l.length = n) (hofs : ofs.length = k) (hk : 0 < k ∧ k ≤ 100) (hn : n ≤ 9223372036854775807) (hm : ∀ x ∈ l, x.length ≤ 9223372036854775807)
    (h : K (cv (.slc 2 0 (min n 8) none false)) [] [.rows2 ro 1 (l.map fun xs => xs.map rowZ), .rows ro2 1 (ofs.map rowZ), callsH false (asksZ ofs l)]) :
    Does Tryd.prog 38 [cv (.slc 0 0 n none false), cv (.slc 1 0 k c2 nn2)] [.rows2 ro 1 (l.map fun xs => xs.map rowZ), .rows ro2 1 (ofs.map rowZ)] K := by
  refine Does.keep 2 rfl ?_
  refine does Tryd.func38 rfl (by decide) ?_
  have e8 : ∀ m : Nat, (if (8 : Int) < (m : Int) then (8 : Int) else (m : Int)) = ((min m 8 : Nat) : Int) := fun m => by split <;> omega
  refine at2 (by split <;> omega) (by split <;> omega) ?_
  rw [e8 n, Int.toNat_natCast]
  refine SS.nil2 5 2 rfl ?_
  have hlen : (asksZ ofs l).length = min n 8 := by rw [asksZ, List.length_map, List.length_take, hl]; omega
  refine SS.loop (fun i : Nat => i ≤ min n 8) (fun i => [(1, cv (.slc 1 0 k c2 nn2)), (5, cv (.slc 2 0 i none false)), (15, cv (.slc 0 0 (min n 8) none (Nat.blt 0 n))), (16, i64 (min n 8 : Nat)), (17, i64 i)])
    (fun i => [.rows2 ro 1 (l.map fun xs => xs.map rowZ), .rows ro2 1 (ofs.map rowZ), callsH false ((asksZ ofs l).take i)]) (fun i => min n 8 - i) [2, 3, 4]
    (At.mk' [1, 5, 15, 16, 17] 0 (by simp) ⟨rfl, rfl⟩ rfl rfl (by simp) (by simp) (by simp)) ?_
  intro i hi
  change i ≤ min n 8 at hi
  refine S_r ?_
  refine brc_intro (fun hlt => ?_) (fun hlt => ?_)
  · have hlt : i < min n 8 := by
      have := of_decide_eq_true hlt
      have : (i : Int) < ((min n 8 : Nat) : Int) := this
      omega
    obtain ⟨x, hx⟩ : ∃ x, l[i]? = some x := ⟨_, List.getElem?_eq_getElem (by omega)⟩
    have hxm : (l.map fun xs => xs.map rowZ)[0 + Int.toNat (i : Int)]? = some (x.map rowZ) := by simp [hx]
    have hxl : (x.map rowZ).length = x.length := by simp
    have hxb := hm x (List.mem_of_getElem? hx)
    refine at2 (a := (0 : Int) ≤ (i : Int)) (b := (i : Int) < ((min n 8 : Nat) : Int)) (by omega) (by omega) ?_
    refine Exists.intro (x.map rowZ) (And.intro hxm ?_)
    rw [hxl, show 0 + Int.toNat (i : Int) = i from by simp]
    refine And.intro (by rw [List.length_map]; omega) (at2 (by split <;> omega) (by split <;> omega) ?_)
    rw [e8 x.length, Int.toNat_natCast]
    refine SS.nil 8 2 (by decide) rfl ?_
    have hal : (askL ofs x).length = min x.length 8 := by rw [askL, List.length_map, List.length_take]; omega
    refine SS.loop (fun j : Nat => j ≤ min x.length 8) (fun j => [(1, cv (.slc 1 0 k c2 nn2)), (5, cv (.slc 2 0 i none false)), (8, cv (.slc 3 0 j none false)), (15, cv (.slc 0 0 (min n 8) none (Nat.blt 0 n))), (16, i64 (min n 8 : Nat)), (17, i64 i), (25, cv (.islc 0 i 0 (min x.length 8) none (Nat.blt 0 x.length))), (26, i64 (min x.length 8 : Nat)), (27, i64 j)])
      (fun j => [.rows2 ro 1 (l.map fun xs => xs.map rowZ), .rows ro2 1 (ofs.map rowZ), callsH false ((asksZ ofs l).take i), .rows false 2 (((askL ofs x).take j).map rowCallZ)]) (fun j => min x.length 8 - j) [2, 3, 4]
      (At.mk' [1, 5, 8, 15, 16, 17, 25, 26, 27] 0 (by simp) ⟨rfl, rfl⟩ rfl rfl (by simp) (by simp) (by simp)) ?_
    intro j hj
    change j ≤ min x.length 8 at hj
    refine S_r ?_
    refine brc_intro (fun hlt2 => ?_) (fun hlt2 => ?_)
    · have hlt2 : j < min x.length 8 := by
        have := of_decide_eq_true hlt2
        have : (j : Int) < ((min x.length 8 : Nat) : Int) := this
        omega
      obtain ⟨y, hy⟩ : ∃ y, x[j]? = some y := ⟨_, List.getElem?_eq_getElem (by omega)⟩
      have hym : (x.map rowZ)[0 + Int.toNat (j : Int)]? = some (rowZ y) := by simp [hy]
      have hpk := pickZ_lt y (n := k) (by omega)
      obtain ⟨z, hz⟩ : ∃ z, ofs[(pickZ y k).toNat]? = some z := ⟨_, List.getElem?_eq_getElem (by omega)⟩
      have hzm : (ofs.map rowZ)[0 + (pickZ y k).toNat]? = some (rowZ z) := by simp [hz]
      refine And.intro (by rw [List.length_map]; omega) (at2 (a := (0 : Int) ≤ (j : Int)) (b := (j : Int) < ((min x.length 8 : Nat) : Int)) (by omega) (by omega) ?_)
      refine Exists.intro (x.map rowZ) (Exists.intro (rowZ y) (Exists.intro (.int .i64 y) (And.intro (by simp [hx]) (And.intro hym (And.intro rfl ?_)))))
      change Does Tryd.prog 23 _ _ _
      refine Does.alone 4 (pick y k (by omega) ?_)
      refine at2 hpk.1 hpk.2 (rd1 (rowZ z) (.int .i64 z) hzm rfl ?_)
      have hjl : ((askL ofs x).take j).length = j := by rw [List.length_take]; omega
      refine And.intro (by simp) (Or.inl (And.intro rfl (And.intro (by rw [List.length_map, hjl]) (And.intro (by show (j + 1) * 16 ≤ _; omega) (And.intro (by show j + 1 ≤ _; omega) ?_)))))
      refine At.mk' [1, 5, 8, 15, 16, 17, 25, 26, 27] (j + 1) ⟨hlt2, by omega⟩ ⟨?_, rfl⟩ ?_ rfl (by simp) (by simp) (by decide)
      · rw [wrap_i64 (j + 1) (by omega) (by omega)]
        rfl
      · have e : (askL ofs x).take (j + 1) = (askL ofs x).take j ++ [⟨z, 0⟩] := by
          have : (askL ofs x)[j]? = some ⟨z, 0⟩ := by
            rw [askL, List.getElem?_map, List.getElem?_take_of_lt (by omega), hy]
            show some (CallZ.mk (ofs.getD (pickZ y ofs.length).toNat 0) 0) = _
            rw [hofs, List.getD_eq_getElem?_getD, hz]; rfl
          rw [List.take_add_one, this]; rfl
        rw [e, List.map_append]
        rfl
    · have hlt2 : ¬ (j : Int) < ((min x.length 8 : Nat) : Int) := of_decide_eq_false hlt2
      obtain rfl : j = min x.length 8 := by omega
      rw [List.take_of_length_le (Nat.le_of_eq hal)]
      refine And.intro (by simp [hal]) (And.intro rfl (And.intro (by rw [List.length_map, List.length_take]; omega) (at2 (by show (i + 1) * 24 ≤ _; omega) (by omega) ?_)))
      refine At.mk' [1, 5, 15, 16, 17] (i + 1) ⟨hlt, by omega⟩ ⟨?_, rfl⟩ ?_ rfl (by simp) (by simp) (by decide)
      · rw [wrap_i64 (i + 1) (by omega) (by omega)]
        rfl
      · have e : (asksZ ofs l).take (i + 1) = (asksZ ofs l).take i ++ [askL ofs x] := by
          have : (asksZ ofs l)[i]? = some (askL ofs x) := by rw [asksZ, List.getElem?_map, List.getElem?_take_of_lt (by omega), hx]; rfl
          rw [List.take_add_one, this]; rfl
        rw [e, callsH, List.map_append]
        rfl
  · have hlt : ¬ (i : Int) < ((min n 8 : Nat) : Int) := of_decide_eq_false hlt
    obtain rfl : i = min n 8 := by omega
    rw [List.take_of_length_le (by omega)]
    exact ⟨3, [0, 1, 2], _, _, rfl, rfl, by decide, by decide, rfl, rfl, rfl, rfl, rfl, h⟩

end
end Go.Mac
