/- Done once: nobody waits for ever. -/
import Derived.Test.YtondghnbecnpiaaDoorQOnce
import Derived.Test.YtondghnbecnpiaaDoorQOnceZ2
import Derived.Test.YtondghnbecnpiaaDoorQAsks
import Derived.Test.YtondghnbecnpiaaDoorGBase
open Go Go.Proofs Go.Mac
set_option maxRecDepth 100000
namespace Go.Mac

theorem onceU_rep (l : List CallZ) : ∀ i, i ≤ l.length → onceU (l.take i) = repU onceB i
  | 0, _ => rfl
  | i + 1, h => by
    obtain ⟨c, hc⟩ : ∃ c, l[i]? = some c := ⟨_, List.getElem?_eq_getElem (by omega)⟩
    rw [onceU_take l i c hc, repU, onceU_rep l i (by omega)]
    rfl

theorem onceP_rep (l : List CallZ) : onceP l = repP onceB l.length := by
  have := onceU_rep l l.length (Nat.le_refl _)
  rw [List.take_length] at this
  rw [onceP, repP, this]

abbrev onesL : List (List CallZ) := [[⟨18, 0⟩], [⟨18, 0⟩, ⟨18, 0⟩]]
abbrev onesZ : MZ := mz0 (onesL.map onceP) [0, 0]

theorem ones_ok : (((onesL.map onceP).all fun p => rightZ p 2) && finB 100 onesZ fun m => allZ m && m.ws == [2, 1]) = true := by decide +kernel

theorem askL_len (ofs x : List Int) : (askL ofs x).length ≤ 8 := by rw [askL, List.length_map, List.length_take]; omega
theorem asksZ_len (ofs : List Int) (l : List (List Int)) : (asksZ ofs l).length = min l.length 8 := by rw [asksZ, List.length_map, List.length_take]; omega

theorem asks_one (w : Int) (x : List Int) : ∀ c ∈ askL [w] x, c.w = w ∧ c.n = 0 := fun c hc => by
  obtain ⟨n, _, rfl⟩ := List.mem_map.1 hc
  have := pickZ_lt n (n := 1) (by decide)
  have e : (pickZ n 1).toNat = 0 := by omega
  refine ⟨?_, rfl⟩
  show [w].getD (pickZ n 1).toNat 0 = w
  rw [e]; rfl

section
variable {K : AV → List Nat → List PO → Prop}

theorem onceCode' {ls : List (List CallZ)} {ro : Bool} (x : Int) (i : Nat) (l : List CallZ) (hi : ls[i]? = some l) (hl : l.length ≤ 12) (hf : ∀ c ∈ l, onceFit c) (h : K (.tup [.c (.slc 1 0 (onceP l).length none false), okP]) [] [callsH ro ls, .rows false 5 ((onceP l).map rowIns)]) :
    Does Tryd.prog 37 [i64 x, cv (.islc 0 i 0 l.length none false)] [callsH ro ls] K := by
  refine Does.row2 (l.map rowCallZ) (by simp [hi]) (by simp) ?_
  refine does Tryd.func37 rfl (by decide) ?_
  change Does Tryd.prog 64 _ _ _
  refine onceCode hl hf ?_
  exact ⟨by simp; exact .inr rfl, h⟩

theorem ones (h : K (bl true) [] []) : Does Tryd.prog 35 [] [] K := by
  have hok := ones_ok
  simp only [Bool.and_eq_true, List.all_eq_true] at hok
  obtain ⟨hr, h2⟩ := hok
  obtain ⟨z, hz⟩ : ∃ z, onesZ = z := ⟨_, rfl⟩
  rw [hz] at h2
  refine does Tryd.func35 rfl (by decide) ?_
  refine And.intro rfl (And.intro rfl ?_)
  change Does Tryd.prog 24 _ _ _
  refine Does.nilArg4 2 (by decide) ?_
  refine Does.on 5 [2, 3, 4] _ _ (made (ls := onesL) (ps := onesL.map onceP) (ws := [0, 0]) (ms := []) (f := 37) (n := 2) (nc := 2) (k := 0) (ro := false) (ro2 := false) (ro3 := false) rfl rfl rfl rfl (by decide) (by decide) (by decide) hr (by decide) (hz := hz) (fun i l p hl hp K' hK' => ?_) fun v hv hw => ?_)
  · obtain rfl : onceP l = p := by
      rw [List.getElem?_map, hl] at hp
      exact Option.some.inj hp
    have hm := List.mem_of_getElem? hl
    refine onceCode' i i l hl ?_ ?_ hK'
    · simp only [List.mem_cons, List.not_mem_nil, or_false] at hm
      rcases hm with rfl | rfl <;> decide
    · simp only [List.mem_cons, List.not_mem_nil, or_false] at hm
      rcases hm with rfl | rfl <;> simp [onceFit]
  · change Does Tryd.prog 28 _ _ _
    refine Does.on 14 [5, 6, 7, 8, 9, 10, 11, 12, 13] _ _ (fairFinish (m := z) (v := v) hw hv fun v1 _ hv1 hw1 => ?_)
    have hf := finB_ok hw h2
    simp only [Bool.and_eq_true, beq_iff_eq] at hf
    obtain ⟨f1, f2⟩ := hf
    generalize finish z = z1 at hw1 f1 f2
    change Does Tryd.prog 21 _ _ _
    refine Does.on 14 [5, 6, 7, 8, 9, 10, 11, 12, 13] _ _ (coreEnds (m := z1) (v := v1) hw1 ?_)
    rw [f1]
    change Does Tryd.prog 27 _ _ _
    refine Does.on 14 [5, 6, 7, 8, 9, 10, 11, 12, 13] _ _ (coreCellsL (m := z1) (v := v1) hw1 f2 ?_)
    change Does Tryd.prog 30 _ _ _
    refine Does.on 16 [14, 15] _ _ (equalU (xs := [2, 1]) (ys := [2, 1]) (by decide) (fun _ => ?_) fun h => absurd rfl h)
    exact h

theorem onceEnds (l : List (List Int)) (_hw : ∀ xs ∈ l, ∀ x ∈ xs, -9223372036854775808 ≤ x ∧ x ≤ 9223372036854775807) (hl : l.length ≤ 9223372036854775807) (hm : ∀ xs ∈ l, xs.length ≤ 9223372036854775807) (ms : List MoveZ) :
    Does Tryd.prog 10 [cv (.slc 0 0 l.length none false), cv (.slc 1 0 ms.length none false)] [.rows2 true 1 (l.map fun xs => xs.map rowZ), .rows true 2 (ms.map rowMove), rtH] fun v _ _ => v = bl true := by
  refine does Tryd.func10 rfl (by decide) ?_
  change Does Tryd.prog 35 _ _ _
  refine Does.alone 3 (ones ?_)
  refine brc_intro (fun _ => rfl) (fun h => ?_)
  have hms : ms.length ≤ 600 := by
    have := of_decide_eq_false h
    omega
  change Does Tryd.prog 36 _ _ _
  refine Does.on 4 [0, 3] _ _ (asks (l := l) (ofs := [18]) (k := 1) rfl rfl (by decide) hl hm ?_)
  generalize hcs : (asksZ [18] l).map List.length = cs
  have hn : (asksZ [18] l).length = min l.length 8 := asksZ_len _ _
  have hcl : cs.length ≤ 8 := by rw [← hcs, List.length_map]; omega
  have hc8 : ∀ c ∈ cs, c ≤ 8 := fun c hc => by
    rw [← hcs] at hc
    obtain ⟨x, hx, rfl⟩ := List.mem_map.1 hc
    rw [asksZ] at hx
    obtain ⟨y, _, rfl⟩ := List.mem_map.1 hx
    exact askL_len _ _
  have hps : (asksZ [18] l).map onceP = cs.map (repP onceB) := by
    rw [← hcs, List.map_map]
    exact List.map_congr_left fun x _ => onceP_rep x
  have hI := once_moves hcl hc8 ms
  obtain ⟨z, hz⟩ : ∃ z, movesZ (mz0 (cs.map (repP onceB)) [0, 0]) ms = z := ⟨_, rfl⟩
  rw [hz] at hI
  change Does Tryd.prog 24 _ _ _
  refine Does.on 6 [4, 5, 1] _ _ (made (ls := asksZ [18] l) (ps := cs.map (repP onceB)) (ws := [0, 0]) (ms := ms) (f := 37) (n := min l.length 8) (nc := 2) (ro := false) (ro2 := false) (ro3 := true) hn (by rw [← hps, List.length_map, hn]) rfl rfl (by omega) (by decide) (by omega) (fun p hp => ?_) (by decide) (hz := hz) (fun i l' p hl hp K' hK' => ?_) fun v hv hw => ?_)
  · obtain ⟨c, hc', rfl⟩ := List.mem_map.1 hp
    have := hc8 c hc'
    exact List.all_eq_true.1 onceRight c (List.mem_range.2 (by omega))
  · obtain rfl : onceP l' = p := by
      rw [← hps, List.getElem?_map, hl] at hp
      exact Option.some.inj hp
    have hm := List.mem_of_getElem? hl
    rw [asksZ] at hm
    obtain ⟨y, _, rfl⟩ := List.mem_map.1 hm
    exact onceCode' i i _ hl (Nat.le_trans (askL_len _ _) (by decide)) (asks_one 18 y) hK'
  · change Does Tryd.prog 28 _ _ _
    refine Does.on 15 [6, 7, 8, 9, 10, 11, 12, 13, 14] _ _ (fairFinish (m := z) (v := v) hw hv fun v1 _ hv1 hw1 => ?_)
    obtain ⟨_, hd⟩ := once_finish hI (by omega)
    have hall := all_of hd
    have hst := stuck_of hd
    generalize finish z = z1 at hw1 hall hst
    change Does Tryd.prog 21 _ _ _
    refine Does.on 15 [6, 7, 8, 9, 10, 11, 12, 13, 14] _ _ (coreEnds (m := z1) (v := v1) hw1 ?_)
    rw [hall, hst]
    exact rfl

end
end Go.Mac
