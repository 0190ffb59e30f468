/- code.one: whatever the line. -/
import Derived.Test.YtlimhldkkbaohaaDoorQCodeT
import Derived.Test.YtlimhldkkbaohaaDoorQSplitG
open Go Go.Proofs Go.Mac
set_option maxRecDepth 100000
namespace Go.Mac

/-- The numbers that are read, one by one. -/
def xsZ (op : Int) (ps : List (List UInt8)) : List Int := (List.range 4).map fun k => (rdZ op ps k).getD 0

theorem xsZ_get {op : Int} {ps : List (List UInt8)} {k : Nat} (hk : k < 4) : (xsZ op ps).getD k 0 = (rdZ op ps k).getD 0 := by
  rcases (show k = 0 ∨ k = 1 ∨ k = 2 ∨ k = 3 by omega) with rfl | rfl | rfl | rfl <;> rfl

theorem atZ_succ (op : Int) (k : Nat) : atZ op (k + 1) = if fo op k = 0 then atZ op k else atZ op k + 1 := by
  unfold atZ
  rw [List.range_succ, List.countP_append]
  by_cases h : fo op k = 0
  · rw [if_pos h]; simp [h]
  · rw [if_neg h]; simp [h]; omega

theorem atZ_le (op : Int) (k : Nat) : 1 ≤ atZ op k ∧ atZ op k ≤ 1 + k := by
  unfold atZ
  have := List.countP_le_length (p := fun j => fo op j != 0) (l := List.range k)
  rw [List.length_range] at this
  omega

theorem wordsI_none {ps : List (List UInt8)} {o k : Nat} (ho : opZ (ps.headD []) = some o) (hk : k < 4) (h : rdZ o ps k = none) : wordsI ps = none := by
  unfold wordsI
  rw [ho]
  rcases (show k = 0 ∨ k = 1 ∨ k = 2 ∨ k = 3 by omega) with rfl | rfl | rfl | rfl <;> dsimp only <;> rw [h] <;> (repeat' split) <;> first | rfl | (rename_i hh; simp at hh) | simp_all

theorem opZ_none {w : List UInt8} (h : ∀ o, o < 17 → nameZ.getD o [] ≠ w) : opZ w = none := by
  unfold opZ
  rw [List.find?_eq_none]
  intro o ho
  have := h o (List.mem_range.1 ho)
  simpa using this

theorem opZ_some {w : List UInt8} {o : Nat} (ho : o < 17) (h : nameZ.getD o [] = w) : opZ w = some o := by
  rw [← h]; exact name_op o ho

section
variable {K : AV → List Nat → List PO → Prop}

abbrev zIns : InsZ := ⟨0, 0, 0, 0, 0⟩

set_option maxHeartbeats 4000000 in
theorem codeOneG {s : List UInt8} (hs : s.length ≤ 1000000000) (h1 : ∀ x, lineZ s = some x → K (.tup [.agg ((rowIns x).map .f), .c (.f (.bool true))]) [] [powH, errS, errR])
    (h0 : lineZ s = none → ∀ x : InsZ, K (.tup [.agg ((rowIns x).map .f), .c (.f (.bool false))]) [] [powH, errS, errR]) : Does Tryd.prog 69 [st s] [powH, errS, errR] K := by
  refine Does.keep 3 rfl ?_
  refine does Tryd.func69 rfl (by decide) ?_
  change Does Tryd.prog 103 _ _ _
  refine Does.alone 4 (splitAll hs ?_)
  obtain ⟨ps, hps⟩ : ∃ ps, splitB 32 s = ps := ⟨_, rfl⟩
  have hline : lineZ s = wordsI ps := by rw [lineZ, hps]
  have hne : ps ≠ [] := hps ▸ split_ne 32 s
  have hpl : ps.length ≤ 1000000001 := by
    rw [← hps, split_len]
    have := count_len (c := 32) s
    omega
  have htl : ∀ t ∈ ps, t.length ≤ 1000000000 := fun t ht => by
    have := split_mem_len (c := 32) s t (by rw [hps]; exact ht)
    omega
  have h1 : ∀ x, wordsI ps = some x → K (.tup [.agg ((rowIns x).map .f), .c (.f (.bool true))]) [] [powH, errS, errR] := fun x hx => h1 x (hline.trans hx)
  have h0 : wordsI ps = none → ∀ x : InsZ, K (.tup [.agg ((rowIns x).map .f), .c (.f (.bool false))]) [] [powH, errS, errR] := fun hx => h0 (hline.trans hx)
  rw [hps]
  clear hps hline
  have hpos : 0 < ps.length := List.length_pos_iff.2 hne
  obtain ⟨w, hw⟩ : ∃ w, ps[0]? = some w := ⟨_, List.getElem?_eq_getElem hpos⟩
  have hhd : ps.headD [] = w := by cases ps <;> simp_all
  refine SS.loop (fun o : Nat => o ≤ 17 ∧ ∀ j, j < o → nameZ.getD j [] ≠ w) (fun o => [(2, cv (.ptr 3 0)), (3, bl false), (4, cv (.slc 4 0 ps.length none true)), (5, i64 o)])
    (fun _ => [powH, errS, errR, .one [.f (.int .i64 0), .f (.int .i64 0), .f (.int .i64 0), .f (.int .i64 0), .f (.int .i64 0)], .rows false 1 (ps.map rowStr)]) (fun o => 17 - o) []
    (At.mk' [2, 3, 4, 5] 0 ⟨by simp, fun j hj => absurd hj (by simp)⟩ ⟨rfl, rfl⟩ rfl rfl (by simp) (by simp) (by simp)) ?_
  rintro o ⟨ho, hno⟩
  refine S_r ?_
  refine brc_intro (fun hlt => ?_) (fun hlt => ?_)
  · have hlt : o < 17 := by
      have := of_decide_eq_true hlt
      have : (o : Int) < 17 := this
      omega
    refine SS.drawR follows (by decide) ?_
    have hp0 : (ps.map rowStr)[0 + Int.toNat 0]? = some (rowStr w) := by simp [hw]
    have hn0 : (0 : Int) < ((ps.length : Nat) : Int) := by omega
    refine at2 (Int.le_refl 0) hn0 (rd1 (rowStr w) (.str w) hp0 rfl ?_)
    change Does Tryd.prog 65 _ _ _
    refine Does.alone 5 (codeName o hlt ?_)
    refine And.intro rfl ?_
    refine And.intro (And.intro (Int.le_refl 0) (And.intro hn0 rfl)) ?_
    refine And.intro (Exists.intro (rowStr w) (Exists.intro (FC.str w) (And.intro hp0 (And.intro rfl rfl)))) ?_
    refine brc_intro (fun hne => ?_) (fun heq => ?_)
    · have hne : nameZ.getD o [] ≠ w := by simpa using hne
      refine At.mk' [2, 3, 4, 5] (o + 1) ⟨⟨by omega, fun j hj => ?_⟩, by omega⟩ ⟨?_, rfl⟩ rfl rfl (by simp) (by simp) (by decide)
      · rcases Nat.lt_succ_iff_lt_or_eq.1 hj with h | rfl
        · exact hno j h
        · exact hne
      · rw [wrap_i64 ((o : Int) + 1) (by omega) (by omega)]
        rfl
    · have heq : nameZ.getD o [] = w := by simpa using heq
      have hop : opZ (ps.headD []) = some o := by rw [hhd]; exact opZ_some hlt heq
      change Does Tryd.prog 62 _ _ _
      refine Does.alone 6 (form (o : Int) (by omega) ?_)
      refine SS.loop (fun i : Nat => i ≤ 4 ∧ atZ o i ≤ ps.length ∧ ∀ j, j < i → rdZ o ps j ≠ none) (fun i => [(2, cv (.ptr 3 0)), (3, bl false), (4, cv (.slc 4 0 ps.length none true)), (5, i64 o), (6, cv (.ptr 5 0)), (7, i64 (atZ o i : Nat)), (25, pvF o), (26, i64 i)])
        (fun i => [powH, errS, errR, .one [.f (.int .i64 0), .f (.int .i64 0), .f (.int .i64 0), .f (.int .i64 0), .f (.int .i64 0)], .rows false 1 (ps.map rowStr), .one (accZ (xsZ o ps) i)]) (fun i => 4 - i) []
        (At.mk' [2, 3, 4, 5, 6, 7, 25, 26] 0 ⟨by simp, by rw [show atZ o 0 = 1 from rfl]; omega, fun j hj => absurd hj (by simp)⟩ ⟨?_, rfl⟩ rfl rfl (by simp) (by simp) (by simp)) ?_
      · rw [show atZ o 0 = 1 from rfl]
        rfl
      rintro i ⟨hi, hal, hrd⟩
      have hat := atZ_le o i
      refine S_r ?_
      refine brc_intro (fun hlt => ?_) (fun hlt => ?_)
      · have hlt : i < 4 := by
          have := of_decide_eq_true hlt
          have : (i : Int) < 4 := this
          omega
        have hfo : ([.f (.int .i64 (fo o 0)), .f (.int .i64 (fo o 1)), .f (.int .i64 (fo o 2)), .f (.int .i64 (fo o 3))] : List CV)[i]? = some (.f (.int .i64 (fo o i))) := by
          rcases (show i = 0 ∨ i = 1 ∨ i = 2 ∨ i = 3 by omega) with rfl | rfl | rfl | rfl <;> rfl
        have hnx : ∀ v, rdZ o ps i = some v → ∀ j, j < i + 1 → rdZ o ps j ≠ none := fun v hv j hj => by
          rcases Nat.lt_succ_iff_lt_or_eq.1 hj with h | rfl
          · exact hrd j h
          · rw [hv]; simp
        refine SS.inlR ?_
        refine at2 (a := (0 : Int) ≤ (i : Int)) (b := (i : Int) < (4 : Nat)) (by omega) (by omega) ?_
        refine Exists.intro (CV.f (.int .i64 (fo o i))) (And.intro (by rw [show szOf Tryd.prog 3 = 1 from rfl, Int.toNat_natCast, Nat.mul_one]; exact hfo) ?_)
        have wi : IntKind.i64.wrap ((i : Int) + 1) = ((i + 1 : Nat) : Int) := wrap_i64 _ (by omega) (by omega)
        have hsu := atZ_succ o i
        have hxg := xsZ_get (op := o) (ps := ps) hlt
        refine brc_intro (fun h0' => ?_) (fun h0' => ?_)
        · have hf0 : fo o i = 0 := by simpa using h0'
          have hr0 : rdZ o ps i = some 0 := by rw [rdZ, if_pos hf0]
          rw [if_pos hf0] at hsu
          rw [hr0] at hxg
          refine At.mk' [2, 3, 4, 5, 6, 7, 25, 26] (i + 1) ⟨⟨by omega, by rw [hsu]; exact hal, hnx 0 hr0⟩, by omega⟩ ⟨?_, rfl⟩ ?_ rfl (by simp) (by simp) (by decide)
          · rw [hsu, wi]
          · rw [accZ_zero hlt hxg]
            rfl
        · have hf0 : fo o i ≠ 0 := by simpa using h0'
          rw [if_neg hf0] at hsu
          have hr : rdZ o ps i = (ps[atZ o i]?).bind tokV := by rw [rdZ, if_neg hf0]
          have fail : rdZ o ps i = none → K (.tup [.agg ((rowIns zIns).map .f), .c (.f (.bool false))]) [] [powH, errS, errR] := fun hn => h0 (wordsI_none hop hlt hn) zIns
          refine brc_intro (fun h1' => ?_) (fun h1' => ?_)
          · have e1 : atZ o i = ps.length := by
              have : ((atZ o i : Nat) : Int) = ((ps.length : Nat) : Int) := by simpa using h1'
              omega
            exact ⟨3, [0, 1, 2], _, _, rfl, rfl, by decide, by decide, rfl, rfl, rfl, rfl, rfl, fail (by rw [hr, List.getElem?_eq_none (by omega)]; rfl)⟩
          have e1 : atZ o i ≠ ps.length := by
            intro e
            rw [e] at h1'
            simp at h1'
          obtain ⟨t, ht⟩ : ∃ t, ps[atZ o i]? = some t := ⟨_, List.getElem?_eq_getElem (by omega)⟩
          have htl := htl t (List.mem_of_getElem? ht)
          rw [ht, Option.bind_some] at hr
          have hpr : (ps.map rowStr)[0 + Int.toNat ((atZ o i : Nat) : Int)]? = some (rowStr t) := by rw [Int.toNat_natCast, Nat.zero_add, List.getElem?_map, ht]; rfl
          have hA0 : (0 : Int) ≤ ((atZ o i : Nat) : Int) := by omega
          have hA1 : ((atZ o i : Nat) : Int) < ((ps.length : Nat) : Int) := by
            have := (List.getElem?_eq_some_iff.1 ht).1
            omega
          refine at2 hA0 hA1 (rd1 (rowStr t) (.str t) hpr rfl ?_)
          change Does Tryd.prog 104 _ _ _
          refine Does.on 6 [1, 2] _ _ (atoiText t htl (fun v hv => ?_) fun hv n => ?_)
          · have hv64 := atoi_range hv
            refine SS.drawR follows (by decide) ?_
            refine at2 hA0 hA1 (rd1 (rowStr t) (.str t) hpr rfl ?_)
            change Does Tryd.prog 66 _ _ _
            refine Does.on 6 [0] _ _ (strItoa v hv64.1 hv64.2 ?_)
            have hck : ∃ row x, (ps.map rowStr)[0 + Int.toNat ((atZ o i : Nat) : Int)]? = some row ∧ row[0]? = some x ∧ (AV.p (.c (.f x)) : AV) = st t := ⟨rowStr t, .str t, hpr, rfl, rfl⟩
            repeat' (first | refine And.intro rfl ?_ | refine And.intro (And.intro hA0 (And.intro hA1 rfl)) ?_ | refine And.intro hck ?_ | fail)
            refine brc_intro (fun hne => ?_) (fun heq => ?_)
            · have hne : Lib.itoa v ≠ t := by simpa using hne
              exact ⟨3, [0, 1, 2], _, _, rfl, rfl, by decide, by decide, rfl, rfl, rfl, rfl, rfl, fail (by rw [hr, tokV, hv]; exact if_neg hne)⟩
            · have heq : Lib.itoa v = t := by simpa using heq
              have hr1 : rdZ o ps i = some v := by rw [hr, tokV, hv]; exact if_pos heq
              rw [hr1] at hxg
              have hxg : (xsZ o ps).getD i 0 = v := hxg
              have wt : IntKind.i64.wrap (((atZ o i : Nat) : Int) + 1) = ((atZ o (i + 1) : Nat) : Int) := by rw [hsu, wrap_i64 _ (by omega) (by omega)]; rfl
              have hnx := hnx v hr1
              have hal2 : atZ o (i + 1) ≤ ps.length := by rw [hsu]; omega
              rw [← hxg]
              rcases (show i = 0 ∨ i = 1 ∨ i = 2 ∨ i = 3 by omega) with rfl | rfl | rfl | rfl
              · refine at2 (by simp) (by simp) ?_
                refine At.mk' [2, 3, 4, 5, 6, 7, 25, 26] 1 ⟨⟨by omega, hal2, hnx⟩, by omega⟩ ⟨?_, rfl⟩ ?_ rfl (by simp) (by simp) (by decide)
                · rw [wi, wt]
                · rfl
              · refine at2 (by simp) (by simp) ?_
                refine At.mk' [2, 3, 4, 5, 6, 7, 25, 26] 2 ⟨⟨by omega, hal2, hnx⟩, by omega⟩ ⟨?_, rfl⟩ ?_ rfl (by simp) (by simp) (by decide)
                · rw [wi, wt]
                · rfl
              · refine at2 (by simp) (by simp) ?_
                refine At.mk' [2, 3, 4, 5, 6, 7, 25, 26] 3 ⟨⟨by omega, hal2, hnx⟩, by omega⟩ ⟨?_, rfl⟩ ?_ rfl (by simp) (by simp) (by decide)
                · rw [wi, wt]
                · rfl
              · refine at2 (by simp) (by simp) ?_
                refine At.mk' [2, 3, 4, 5, 6, 7, 25, 26] 4 ⟨⟨by omega, hal2, hnx⟩, by omega⟩ ⟨?_, rfl⟩ ?_ rfl (by simp) (by simp) (by decide)
                · rw [wi, wt]
                · rfl
          · refine SS.drawR follows (by decide) ?_
            repeat' (first | refine And.intro rfl ?_ | fail)
            exact ⟨3, [0, 1, 2], _, _, rfl, rfl, by decide, by decide, rfl, rfl, rfl, rfl, rfl, fail (by
              rw [hr, tokV]
              split
              · rename_i v' hv'
                exact absurd hv' (hv v')
              · rfl)⟩
      · have hlt : ¬ (i : Int) < 4 := of_decide_eq_false hlt
        obtain rfl : i = 4 := by omega
        have hx : ∀ k, k < 4 → rdZ o ps k = some ((xsZ o ps).getD k 0) := fun k hk => by
          rw [xsZ_get hk]
          have := hrd k hk
          cases h : rdZ o ps k with
          | none => exact absurd h this
          | some v => rfl
        have hwd : wordsI ps = if atZ o 4 = ps.length then some (insL o (xsZ o ps)) else none := by
          unfold wordsI
          rw [hop]
          dsimp only
          rw [hx 0 (by omega), hx 1 (by omega), hx 2 (by omega), hx 3 (by omega)]
          rfl
        repeat (refine at2 (by simp) (by simp) ?_)
        by_cases he : atZ o 4 = ps.length
        · rw [if_pos he] at hwd
          have hb : (((atZ o 4 : Nat) : Int) == ((ps.length : Nat) : Int)) = true := by rw [he]; simp
          have h := h1 _ hwd
          rw [← hb] at h
          exact ⟨3, [0, 1, 2], _, _, rfl, rfl, by decide, by decide, rfl, rfl, rfl, rfl, rfl, h⟩
        · rw [if_neg he] at hwd
          have hb : (((atZ o 4 : Nat) : Int) == ((ps.length : Nat) : Int)) = false := by
            simp; omega
          have h := h0 hwd (insL o (xsZ o ps))
          rw [← hb] at h
          exact ⟨3, [0, 1, 2], _, _, rfl, rfl, by decide, by decide, rfl, rfl, rfl, rfl, rfl, h⟩
  · have hlt : ¬ (o : Int) < 17 := of_decide_eq_false hlt
    obtain rfl : o = 17 := by omega
    have hn : wordsI ps = none := by
      unfold wordsI
      rw [hhd, opZ_none hno]
    exact ⟨3, [0, 1, 2], _, _, rfl, rfl, by decide, by decide, rfl, rfl, rfl, rfl, rfl, h0 hn zIns⟩

end
end Go.Mac
