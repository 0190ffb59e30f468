/- A latch of one, and one that counts it down; latch.Code as made asks for it. -/
import Derived.Test.YtnkmddcadkcdcaaDoorQMade
import Derived.Test.YtnkmddcadkcdcaaDoorQLatch
import Derived.Test.YtnkmddcadkcdcaaDoorQLatE
import Derived.Test.YtnkmddcadkcdcaaDoorQAsks
import Derived.Test.YtnkmddcadkcdcaaDoorQCount
import Derived.Test.YtnkmddcadkcdcaaDoorGBase
open Go Go.Proofs Go.Mac
set_option maxRecDepth 100000
namespace Go.Mac

abbrev latchedL : List (List CallZ) := [[⟨2, 0⟩], [⟨1, 0⟩]]
abbrev latchedZ : MZ := mz0 (latchedL.map latchP) [1]

theorem latched_ok : (((latchedL.map latchP).all fun p => rightZ p 1) && finB 100 latchedZ fun m => allZ m && m.ws == [0] && m.el.length == 2) = true := by decide +kernel

/-- A call that counts down. -/
def downs (c : CallZ) : Bool := c.w != 2

theorem latchP_cat (l : List CallZ) : latchP l = catP ((l.map downs).map latB) := by
  have := foldl_catU (fun p c => latchIns p c) (fun c => latB (downs c)) (fun p c => by
    rw [latchIns]
    by_cases h : c.w = 2
    · rw [if_pos h, downs, h]
      simp [latB, awaitB, relI]
    · rw [if_neg h, downs, bne_iff_ne.2 h]
      simp [latB, downB, relI]) l []
  rw [latchP, latchU, catP, this, List.map_map]
  rfl

section
variable {K : AV → List Nat → List PO → Prop}

theorem latchCode' {ls : List (List CallZ)} {ro : Bool} (x : Int) (i : Nat) (l : List CallZ) (hi : ls[i]? = some l) (hl : l.length ≤ 12) (hf : ∀ c ∈ l, latchFit c) (h : K (.tup [.c (.slc 1 0 (latchP l).length none false), okP]) [] [callsH ro ls, .rows false 5 ((latchP l).map rowIns)]) :
    Does Tryd.prog 39 [i64 x, cv (.islc 0 i 0 l.length none false)] [callsH ro ls] K := by
  refine Does.row2 (l.map rowCallZ) (by simp [hi]) (by simp) ?_
  refine does Tryd.func39 rfl (by decide) ?_
  change Does Tryd.prog 74 _ _ _
  refine latchCode hl hf ?_
  exact ⟨by simp; exact .inr rfl, h⟩

theorem latched (h : K (bl true) [] []) : Does Tryd.prog 37 [] [] K := by
  have hok := latched_ok
  simp only [Bool.and_eq_true, List.all_eq_true] at hok
  obtain ⟨hr, h2⟩ := hok
  obtain ⟨z, hz⟩ : ∃ z, latchedZ = z := ⟨_, rfl⟩
  rw [hz] at h2
  refine does Tryd.func37 rfl (by decide) ?_
  refine And.intro rfl (And.intro rfl ?_)
  change Does Tryd.prog 24 _ _ _
  refine Does.nilArg4 2 (by decide) ?_
  refine Does.on 5 [2, 3, 4] _ _ (made (ls := latchedL) (ps := latchedL.map latchP) (ws := [1]) (ms := []) (f := 39) (n := 2) (nc := 1) (k := 0) (ro := false) (ro2 := false) (ro3 := false) rfl rfl rfl rfl (by decide) (by decide) (by decide) hr (by decide) (hz := hz) (fun i l p hl hp K' hK' => ?_) fun v hv hw => ?_)
  · obtain rfl : latchP l = p := by
      rw [List.getElem?_map, hl] at hp
      exact Option.some.inj hp
    have hm := List.mem_of_getElem? hl
    refine latchCode' i i l hl ?_ ?_ hK'
    · simp only [List.mem_cons, List.not_mem_nil, or_false] at hm
      rcases hm with rfl | rfl <;> decide
    · simp only [List.mem_cons, List.not_mem_nil, or_false] at hm
      rcases hm with rfl | rfl <;> simp [latchFit]
  · change Does Tryd.prog 27 _ _ _
    refine Does.on 14 [5, 6, 7, 8, 9, 10, 11, 12, 13] _ _ (fairFinish (m := z) (v := v) hw hv fun v1 _ hv1 hw1 => ?_)
    have hf := finB_ok hw h2
    simp only [Bool.and_eq_true, beq_iff_eq] at hf
    obtain ⟨⟨f1, f2⟩, f3⟩ := hf
    generalize finish z = z1 at hw1 f1 f2 f3
    have hel := hw1.el
    have hk := hw1.k
    change Does Tryd.prog 31 _ _ _
    refine Does.on 14 [5, 6, 7, 8, 9, 10, 11, 12, 13] _ _ (coreEnds (m := z1) (v := v1) hw1 ?_)
    rw [f1]
    change Does Tryd.prog 33 _ _ _
    refine Does.on 14 [5, 6, 7, 8, 9, 10, 11, 12, 13] _ _ (coreCellsL (m := z1) (v := v1) hw1 f2 ?_)
    change Does Tryd.prog 32 _ _ _
    refine Does.on 16 [14, 15] _ _ (equalU (xs := [0]) (ys := [0]) (by decide) (fun _ => ?_) fun h => absurd rfl h)
    change Does Tryd.prog 36 _ _ _
    refine Does.on 16 [5, 6, 7, 8, 9, 10, 11, 12, 13] _ _ (coreEvents (m := z1) (v := v1) (by omega) ?_)
    rw [f3]
    exact h

end

theorem asks_fitL (ofs x : List Int) (h0 : 0 < ofs.length) (h : ∀ w ∈ ofs, w = 1 ∨ w = 2) : ∀ c ∈ askL ofs x, latchFit c := fun c hc => by
  obtain ⟨n, _, rfl⟩ := List.mem_map.1 hc
  have hp := pickZ_lt n (n := ofs.length) (by omega)
  refine ⟨?_, rfl⟩
  show ofs.getD (pickZ n ofs.length).toNat 0 = 1 ∨ ofs.getD (pickZ n ofs.length).toNat 0 = 2
  rw [List.getD_eq_getElem?_getD, List.getElem?_eq_getElem (by omega)]
  exact h _ (List.getElem_mem _)

theorem askL_lenL (ofs x : List Int) : (askL ofs x).length ≤ 8 := by rw [askL, List.length_map, List.length_take]; omega
theorem asksZ_lenL (ofs : List Int) (l : List (List Int)) : (asksZ ofs l).length = min l.length 8 := by rw [asksZ, List.length_map, List.length_take]; omega

theorem latM_calls (calls : List (List CallZ)) (f : Int) : mz0 (calls.map latchP) [f] = latM (calls.map fun l => l.map downs) f := by
  rw [latM, List.map_map]
  congr 1
  exact List.map_congr_left fun l _ => latchP_cat l

theorem latch_rights {calls : List (List CallZ)} (h : ∀ l ∈ calls, l.length ≤ 12) : ∀ p ∈ calls.map latchP, rightZ p 1 = true := fun p hp => by
  obtain ⟨l, hl, rfl⟩ := List.mem_map.1 hp
  rw [latchP_cat]
  exact lat_right (by rw [List.length_map]; exact h l hl)

end Go.Mac
