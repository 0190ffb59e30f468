/- A semaphore of nothing, and one that gives; sema.Code as made asks for it. -/
import Derived.Test.YtnkmddcadkcdcaaDoorQMade
import Derived.Test.YtnkmddcadkcdcaaDoorQSema
import Derived.Test.YtnkmddcadkcdcaaDoorQSemaE
import Derived.Test.YtnkmddcadkcdcaaDoorQAsks
import Derived.Test.YtnkmddcadkcdcaaDoorQCount
import Derived.Test.YtnkmddcadkcdcaaDoorGBase
open Go Go.Proofs Go.Mac
set_option maxRecDepth 100000
namespace Go.Mac

abbrev countedL : List (List CallZ) := [[⟨3, 0⟩], [⟨4, 0⟩]]
abbrev countedZ : MZ := mz0 (countedL.map semaP) [0]

theorem counted_ok : (((countedL.map semaP).all fun p => rightZ p 1) && finB 100 countedZ fun m => allZ m && m.ws == [0] && m.el.length == 2) = true := by decide +kernel

/-- A call that gives. -/
def gives (c : CallZ) : Bool := c.w == 4

theorem semaP_cat (l : List CallZ) : semaP l = catP ((l.map gives).map semB) := by
  have := foldl_catU (fun p c => semaIns p c) (fun c => semB (gives c)) (fun p c => by
    rw [semaIns]
    by_cases h : c.w = 4
    · rw [if_pos h, gives, h]; rfl
    · rw [if_neg h, gives, beq_eq_false_iff_ne.2 h]
      simp [semB, takeB, relI]) l []
  rw [semaP, semaU, catP, this, List.map_map]
  rfl

section
variable {K : AV → List Nat → List PO → Prop}

theorem semaCode' {ls : List (List CallZ)} {ro : Bool} (x : Int) (i : Nat) (l : List CallZ) (hi : ls[i]? = some l) (hl : l.length ≤ 12) (hf : ∀ c ∈ l, semaFit c) (h : K (.tup [.c (.slc 1 0 (semaP l).length none false), okP]) [] [callsH ro ls, .rows false 5 ((semaP l).map rowIns)]) :
    Does Tryd.prog 35 [i64 x, cv (.islc 0 i 0 l.length none false)] [callsH ro ls] K := by
  refine Does.row2 (l.map rowCallZ) (by simp [hi]) (by simp) ?_
  refine does Tryd.func35 rfl (by decide) ?_
  change Does Tryd.prog 73 _ _ _
  refine semaCode hl hf ?_
  exact ⟨by simp; exact .inr rfl, h⟩

theorem counted (h : K (bl true) [] []) : Does Tryd.prog 34 [] [] K := by
  have hok := counted_ok
  simp only [Bool.and_eq_true, List.all_eq_true] at hok
  obtain ⟨hr, h2⟩ := hok
  obtain ⟨z, hz⟩ : ∃ z, countedZ = z := ⟨_, rfl⟩
  rw [hz] at h2
  refine does Tryd.func34 rfl (by decide) ?_
  refine And.intro rfl (And.intro rfl ?_)
  change Does Tryd.prog 24 _ _ _
  refine Does.nilArg4 2 (by decide) ?_
  refine Does.on 5 [2, 3, 4] _ _ (made (ls := countedL) (ps := countedL.map semaP) (ws := [0]) (ms := []) (f := 35) (n := 2) (nc := 1) (k := 0) (ro := false) (ro2 := false) (ro3 := false) rfl rfl rfl rfl (by decide) (by decide) (by decide) hr (by decide) (hz := hz) (fun i l p hl hp K' hK' => ?_) fun v hv hw => ?_)
  · obtain rfl : semaP l = p := by
      rw [List.getElem?_map, hl] at hp
      exact Option.some.inj hp
    have hm := List.mem_of_getElem? hl
    refine semaCode' i i l hl ?_ ?_ hK'
    · simp only [List.mem_cons, List.not_mem_nil, or_false] at hm
      rcases hm with rfl | rfl <;> decide
    · simp only [List.mem_cons, List.not_mem_nil, or_false] at hm
      rcases hm with rfl | rfl <;> simp [semaFit]
  · change Does Tryd.prog 27 _ _ _
    refine Does.on 14 [5, 6, 7, 8, 9, 10, 11, 12, 13] _ _ (fairFinish (m := z) (v := v) hw hv fun v1 _ hv1 hw1 => ?_)
    have hf := finB_ok hw h2
    simp only [Bool.and_eq_true, beq_iff_eq] at hf
    obtain ⟨⟨f1, f2⟩, f3⟩ := hf
    generalize finish z = z1 at hw1 f1 f2 f3
    have hel := hw1.el
    have hk := hw1.k
    change Does Tryd.prog 31 _ _ _
    refine Does.on 14 [5, 6, 7, 8, 9, 10, 11, 12, 13] _ _ (coreEnds (m := z1) (v := v1) hw1 ?_)
    rw [f1]
    change Does Tryd.prog 33 _ _ _
    refine Does.on 14 [5, 6, 7, 8, 9, 10, 11, 12, 13] _ _ (coreCellsL (m := z1) (v := v1) hw1 f2 ?_)
    change Does Tryd.prog 32 _ _ _
    refine Does.on 16 [14, 15] _ _ (equalU (xs := [0]) (ys := [0]) (by decide) (fun _ => ?_) fun h => absurd rfl h)
    change Does Tryd.prog 36 _ _ _
    refine Does.on 16 [5, 6, 7, 8, 9, 10, 11, 12, 13] _ _ (coreEvents (m := z1) (v := v1) (by omega) ?_)
    rw [f3]
    exact h

end

/-- Sums over threads, by their list. -/
theorem rsum_list (l : List (List Bool)) (f : List Bool → Nat) : rsum l.length (fun t => f (lsF l t)) = (l.map f).sum := by
  rw [rsum]
  congr 1
  refine List.ext_getElem (by simp) fun i h1 h2 => ?_
  have hi : i < l.length := by simpa using h2
  simp only [List.getElem_map, List.getElem_range]
  rw [lsF, List.getD_eq_getElem?_getD, List.getElem?_eq_getElem hi]
  rfl

theorem askL_len' (ofs x : List Int) : (askL ofs x).length ≤ 8 := by rw [askL, List.length_map, List.length_take]; omega
theorem asksZ_len' (ofs : List Int) (l : List (List Int)) : (asksZ ofs l).length = min l.length 8 := by rw [asksZ, List.length_map, List.length_take]; omega

theorem asks_fit (ofs x : List Int) (h0 : 0 < ofs.length) (h : ∀ w ∈ ofs, w = 3 ∨ w = 4) : ∀ c ∈ askL ofs x, semaFit c := fun c hc => by
  obtain ⟨n, _, rfl⟩ := List.mem_map.1 hc
  have hp := pickZ_lt n (n := ofs.length) (by omega)
  refine ⟨?_, rfl⟩
  show ofs.getD (pickZ n ofs.length).toNat 0 = 3 ∨ ofs.getD (pickZ n ofs.length).toNat 0 = 4
  rw [List.getD_eq_getElem?_getD, List.getElem?_eq_getElem (by omega)]
  exact h _ (List.getElem_mem _)

theorem semM_calls (calls : List (List CallZ)) (f : Int) : mz0 (calls.map semaP) [f] = semM (calls.map fun l => l.map gives) f := by
  rw [semM, List.map_map]
  congr 1
  exact List.map_congr_left fun l _ => semaP_cat l

theorem sema_rights {calls : List (List CallZ)} (h : ∀ l ∈ calls, l.length ≤ 12) : ∀ p ∈ calls.map semaP, rightZ p 1 = true := fun p hp => by
  obtain ⟨l, hl, rfl⟩ := List.mem_map.1 hp
  rw [semaP_cat]
  exact sem_right (by rw [List.length_map]; exact h l hl)

theorem cnt_false (l : List CallZ) (h : ∀ c ∈ l, semaFit c) : cnt false (l.map gives) 0 = countL 3 l := by
  rw [cnt, List.drop_zero, countL, List.count_eq_countP, List.countP_map, List.countP_eq_length_filter]
  congr 1
  refine List.filter_congr fun c hc => ?_
  have := (h c hc).1
  rcases this with h | h <;> simp [gives, h]

theorem cnt_true (l : List CallZ) : cnt true (l.map gives) 0 = countL 4 l := by
  rw [cnt, List.drop_zero, countL, List.count_eq_countP, List.countP_map, List.countP_eq_length_filter]
  congr 1
  refine List.filter_congr fun c hc => ?_
  simp [gives]

end Go.Mac
