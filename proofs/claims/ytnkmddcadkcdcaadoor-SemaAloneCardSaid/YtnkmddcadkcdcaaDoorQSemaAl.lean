/- What is given is taken: one thread that gives and takes. -/
import Derived.Test.YtnkmddcadkcdcaaDoorQCounted
import Derived.Test.YtnkmddcadkcdcaaDoorQAnswers
open Go Go.Proofs Go.Mac
set_option maxRecDepth 100000
namespace Go.Mac

def givL : Nat → List CallZ
  | 0 => []
  | n + 1 => givL n ++ [⟨4, 0⟩, ⟨3, 0⟩]

theorem givL_len : ∀ n, (givL n).length = 2 * n
  | 0 => rfl
  | n + 1 => by rw [givL, List.length_append, givL_len n]; rfl

theorem givL_fit : ∀ n, ∀ c ∈ givL n, semaFit c
  | 0, c, h => by cases h
  | n + 1, c, h => by
    rw [givL, List.mem_append] at h
    rcases h with h | h
    · exact givL_fit n c h
    · simp only [List.mem_cons, List.not_mem_nil, or_false] at h
      rcases h with rfl | rfl <;> simp [semaFit]

abbrev semaAlZ (f t : Nat) : MZ := mz0 [semaP (givL t)] [(f : Int)]

def alone1 (f t : Nat) : List Int := (List.range (2 * t)).map fun i => (f : Int) + 1 - (i % 2 : Nat)

def semaAlB (f t : Nat) : Bool := rightZ (semaP (givL t)) 1 && finB 200 (semaAlZ f t) fun m => allZ m && m.ws == [(f : Int)] && m.el.length == 2 * t && ansT 0 m.el == alone1 f t

theorem semaAl_ok : ((List.range 9).all fun f => (List.range 6).all fun t => semaAlB f t) = true := by decide +kernel

theorem semaAlone (a : Int) (_ha : -9223372036854775808 ≤ a ∧ a ≤ 9223372036854775807) (b : Int) (_hb : -9223372036854775808 ≤ b ∧ b ≤ 9223372036854775807) :
    Does Tryd.prog 5 [i64 a, i64 b] [rtH] fun v _ _ => v = bl true := by
  refine does Tryd.func5 rfl (by decide) ?_
  change Does Tryd.prog 34 _ _ _
  refine Does.alone 1 (counted ?_)
  change Does Tryd.prog 23 _ _ _
  refine Does.alone 1 (pick a 9 (by decide) ?_)
  change Does Tryd.prog 23 _ _ _
  refine Does.alone 1 (pick b 6 (by decide) ?_)
  have hpa := pickZ_lt a (n := 9) (by decide)
  have hpb := pickZ_lt b (n := 6) (by decide)
  obtain ⟨f, hf⟩ := Int.eq_ofNat_of_zero_le hpa.1
  obtain ⟨t, ht⟩ := Int.eq_ofNat_of_zero_le hpb.1
  rw [hf] at hpa ⊢
  rw [ht] at hpb ⊢
  have hok := List.all_eq_true.1 (List.all_eq_true.1 semaAl_ok f (List.mem_range.2 (by omega))) t (List.mem_range.2 (by omega))
  simp only [semaAlB, Bool.and_eq_true] at hok
  obtain ⟨hr, h2⟩ := hok
  clear hf ht
  have hlen := givL_len
  refine SS.nil 5 2 (by decide) rfl ?_
  refine SS.loop (fun j : Nat => j ≤ t) (fun j => [(0, i64 f), (1, i64 t), (5, cv (.slc 1 0 (2 * j) none false)), (17, i64 t), (18, i64 j)]) (fun j => [rtH, .rows false 2 ((givL j).map rowCallZ)]) (fun j => t - j) [1]
    (At.mk' [0, 1, 5, 17, 18] 0 (by simp) ⟨rfl, rfl⟩ rfl rfl (by simp) (by simp) (by simp)) ?_
  intro j hj
  change j ≤ t at hj
  refine S_r ?_
  refine brc_intro (fun hlt => ?_) (fun hlt => ?_)
  · have hlt : j < t := by
      have := of_decide_eq_true hlt
      have : (j : Int) < (t : Int) := this
      omega
    refine And.intro (by simp) (Or.inl (And.intro rfl (And.intro (by simp [givL_len]) (And.intro (by show (2 * j + 2) * 16 ≤ _; omega) (And.intro (by show 2 * j + 2 ≤ _; omega) ?_)))))
    refine At.mk' [0, 1, 5, 17, 18] (j + 1) ⟨hlt, by omega⟩ ⟨?_, rfl⟩ ?_ rfl (by simp) (by simp) (by decide)
    · rw [wrap_i64 (j + 1) (by omega) (by omega)]
      rfl
    · rw [givL, List.map_append]
      rfl
  have hlt : ¬ (j : Int) < (t : Int) := of_decide_eq_false hlt
  obtain rfl : j = t := by omega
  refine And.intro (by simp [givL_len]) ?_
  have wf8 : IntKind.u64.wrap (f : Int) = (f : Int) := wrap_u64 _ (by omega) (by omega)
  change Does Tryd.prog 24 _ _ _
  rw [wf8]
  refine Does.nilArg4 2 (by decide) ?_
  refine Does.on 5 [2, 3, 4] _ _ (made (ls := [givL j]) (ps := [semaP (givL j)]) (ws := [(f : Int)]) (ms := []) (f := 35) (n := 1) (nc := 1) (k := 0) (ro := false) (ro2 := false) (ro3 := false) rfl rfl rfl rfl (by decide) (by decide) (by decide) (fun p hp => by simp only [List.mem_singleton] at hp; subst hp; exact hr) (fun v hv => by simp only [List.mem_singleton] at hv; omega) (hz := rfl) (fun i l p hl hp K' hK' => ?_) fun v hv w0 => ?_)
  · obtain rfl : i = 0 := by have := (List.getElem?_eq_some_iff.1 hl).1; simp at this; omega
    obtain rfl : givL j = l := by simpa using hl
    obtain rfl : semaP (givL j) = p := by simpa using hp
    exact semaCode' _ 0 _ rfl (by rw [givL_len]; omega) (givL_fit j) hK'
  change WF (semaAlZ f j) at w0
  change Does Tryd.prog 27 _ _ _
  refine Does.on 14 [5, 6, 7, 8, 9, 10, 11, 12, 13] _ _ (fairFinish (m := semaAlZ f j) (v := v) w0 hv fun v1 _ hv1 hw1 => ?_)
  have hfb := finB_ok w0 h2
  simp only [Bool.and_eq_true, beq_iff_eq] at hfb
  obtain ⟨⟨⟨f1, f2⟩, f3⟩, f4⟩ := hfb
  generalize finish (semaAlZ f j) = z1 at hw1 f1 f2 f3 f4
  have hel := hw1.el
  have hk := hw1.k
  change Does Tryd.prog 30 _ _ _
  refine Does.on 14 [5, 6, 7, 8, 9, 10, 11, 12, 13] _ _ (answers (m := z1) (v := v1) hw1 1 (by decide) ?_)
  have hal : (ansL 1 z1.el).map (fun l => l.map rowZ) = [(alone1 f j).map rowZ] := by rw [← f4]; rfl
  rw [hal]
  have hln : ((alone1 f j).map rowZ).length = 2 * j := by simp [alone1]
  refine at2 (by decide) (by decide) (Exists.intro ((alone1 f j).map rowZ) (And.intro rfl ?_))
  rw [hln]
  refine SS.loop (fun i : Nat => i ≤ 2 * j) (fun i => [(0, i64 f), (1, i64 j), (6, cv (.ptr 5 0)), (39, cv (.islc 14 0 0 (2 * j) none false)), (40, i64 (2 * j : Nat)), (41, i64 i)])
    (fun _ => [rtH, .gone, callsH false [givL j], .rows false 1 [rowU f], .rows false 2 []] ++ machS 5 z1 v1 ++ [.rows2 false 1 [(alone1 f j).map rowZ]]) (fun i => 2 * j - i) [1, 11, 12, 13]
    (At.mk' [0, 1, 6, 39, 40, 41] 0 (by simp) ⟨rfl, rfl⟩ rfl rfl (by simp) (by simp) (by decide)) ?_
  intro i hi
  change i ≤ 2 * j at hi
  refine S_r ?_
  refine brc_intro (fun hlt => ?_) (fun hlt => ?_)
  · have hlt : i < 2 * j := by
      have := of_decide_eq_true hlt
      have : (i : Int) < ((2 * j : Nat) : Int) := this
      omega
    have hget : ((alone1 f j).map rowZ)[0 + Int.toNat (i : Int)]? = some (rowZ ((f : Int) + 1 - (i % 2 : Nat))) := by
      rw [Nat.zero_add, Int.toNat_natCast, List.getElem?_map, alone1, List.getElem?_map, List.getElem?_range hlt]
      rfl
    refine SS.inlR ?_
    refine And.intro (Nat.zero_lt_one) (at2 (a := (0 : Int) ≤ (i : Int)) (b := (i : Int) < ((2 * j : Nat) : Int)) (by omega) (by omega) ?_)
    refine Exists.intro _ (Exists.intro (rowZ ((f : Int) + 1 - (i % 2 : Nat))) (Exists.intro (.int .i64 ((f : Int) + 1 - (i % 2 : Nat))) (And.intro rfl (And.intro hget (And.intro rfl ?_)))))
    refine brc_intro (fun h => ?_) (fun _ => ?_)
    · exfalso
      have h : ((f : Int) + 1 - ((i % 2 : Nat) : Int) != IntKind.i64.wrap (IntKind.i64.wrap ((f : Int) + 1) - Int.tmod (i : Int) 2)) = true := h
      have ht : Int.tmod (i : Int) 2 = ((i % 2 : Nat) : Int) := by rw [Int.tmod_eq_emod_of_nonneg (by omega)]; omega
      rw [ht, wrap_i64 ((f : Int) + 1) (by omega) (by omega), wrap_i64 _ (by omega) (by omega)] at h
      simp at h
    refine At.mk' [0, 1, 6, 39, 40, 41] (i + 1) ⟨hlt, by omega⟩ ⟨?_, rfl⟩ rfl rfl (by simp) (by simp) (by decide)
    rw [wrap_i64 (i + 1) (by omega) (by omega)]
    rfl
  have hlt : ¬ (i : Int) < ((2 * j : Nat) : Int) := of_decide_eq_false hlt
  change Does Tryd.prog 31 _ _ _
  refine Does.on 15 [5, 6, 7, 8, 9, 10, 11, 12, 13] _ _ (coreEnds (m := z1) (v := v1) hw1 ?_)
  rw [f1]
  change Does Tryd.prog 36 _ _ _
  refine Does.on 15 [5, 6, 7, 8, 9, 10, 11, 12, 13] _ _ (coreEvents (m := z1) (v := v1) (by omega) ?_)
  rw [f3]
  refine brc_intro (fun _ => ?_) (fun h => ?_)
  · change Does Tryd.prog 33 _ _ _
    refine Does.on 16 [5, 6, 7, 8, 9, 10, 11, 12, 13] _ _ (coreCellsL (m := z1) (v := v1) hw1 f2 ?_)
    change Does Tryd.prog 32 _ _ _
    rw [wf8]
    refine Does.on 18 [16, 17] _ _ (equalU (xs := [(f : Int)]) (ys := [(f : Int)]) (by simp) (fun _ => ?_) fun h => absurd rfl h)
    exact rfl
  · exfalso
    have h : (((2 * j : Nat) : Int) == IntKind.i64.wrap (2 * (j : Int))) = false := h
    rw [wrap_i64 (2 * (j : Int)) (by omega) (by omega)] at h
    simp at h

end Go.Mac
