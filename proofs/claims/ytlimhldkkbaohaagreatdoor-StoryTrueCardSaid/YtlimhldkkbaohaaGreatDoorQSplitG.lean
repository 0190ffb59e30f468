/- strings.Cut, strings.Split at a separator of one byte, strconv.Atoi, strconv.Itoa: of whatever texts. -/
import Derived.Test.YtlimhldkkbaohaaGreatDoorQSplit2
import Derived.Test.YtlimhldkkbaohaaGreatDoorGNums
open Go Go.Proofs Go.Mac
set_option maxRecDepth 100000
namespace Go.Mac

/-- The text's parts, and what is left at each. -/
structure PartsG (c : UInt8) (n : Nat) (ps rs : List (List UInt8)) : Prop where
  ln : ps.length = n + 1
  step : ∀ i, i < n → ∃ r p r', rs[i]? = some r ∧ ps[i]? = some p ∧ rs[i + 1]? = some r' ∧ Lib.indexByte r c = p.length ∧ p.length + 1 ≤ r.length ∧ r.length ≤ 1000000000 ∧ r.take p.length = p ∧ r.drop (p.length + 1) = r'
  last : rs[n]? = ps[n]?

theorem parts_join {c : UInt8} {ps : List (List UInt8)} (hne : ps ≠ []) (hf : ∀ p ∈ ps, c ∉ p) (hl : (joinB c ps).length ≤ 1000000000) : ∃ rs, PartsG c (ps.length - 1) ps rs ∧ rs[0]? = some (joinB c ps) := by
  have hpos : 0 < ps.length := List.length_pos_iff.2 hne
  have hlen : ∀ i, (joinB c (ps.drop i)).length ≤ (joinB c ps).length := by
    intro i
    clear hl hf hpos hne
    induction i generalizing ps with
    | zero => exact Nat.le_refl _
    | succ i ih =>
      cases ps with
      | nil => simp
      | cons p ps =>
        rw [List.drop_succ_cons]
        refine Nat.le_trans ih ?_
        cases ps with
        | nil => simp [joinB]
        | cons q qs => rw [joinB_cons (p := p) (by simp)]; simp; omega
  refine ⟨(List.range ps.length).map fun i => joinB c (ps.drop i), ⟨by omega, fun i hi => ?_, ?_⟩, ?_⟩
  · have hi1 : i < ps.length := by omega
    have hd : ps.drop i = ps[i] :: ps.drop (i + 1) := List.drop_eq_getElem_cons hi1
    have hd1 : ps.drop (i + 1) ≠ [] := fun e => by
      have := congrArg List.length e
      simp at this; omega
    have hfi := hf ps[i] (List.getElem_mem hi1)
    have hj : joinB c (ps.drop i) = ps[i] ++ c :: joinB c (ps.drop (i + 1)) := by rw [hd, joinB_cons hd1]
    refine ⟨joinB c (ps.drop i), ps[i], joinB c (ps.drop (i + 1)), by rw [List.getElem?_map, List.getElem?_range hi1]; rfl, List.getElem?_eq_getElem hi1, by rw [List.getElem?_map, List.getElem?_range (show i + 1 < ps.length by omega)]; rfl, ?_, ?_, ?_, ?_, ?_⟩
    · rw [hj]; exact index_app hfi
    · rw [hj]; simp
    · exact Nat.le_trans (hlen i) hl
    · rw [hj]; simp
    · rw [hj, List.drop_append]; simp
  · have hi1 : ps.length - 1 < ps.length := by omega
    rw [List.getElem?_map, List.getElem?_range hi1, List.getElem?_eq_getElem hi1]
    have hd : ps.drop (ps.length - 1) = [ps[ps.length - 1]] := by
      rw [List.drop_eq_getElem_cons hi1, List.drop_of_length_le (by omega)]
    simp only [Option.map_some, hd, joinB_one]
  · rw [List.getElem?_map, List.getElem?_range hpos]
    rfl

theorem count_len {c : UInt8} (s : List UInt8) : Lib.countByte s c ≤ s.length := List.count_le_length

section
variable {K : AV → List Nat → List PO → Prop}

theorem litCutG {s : List UInt8} {c : UInt8} {i : Nat} (hi : Lib.indexByte s c = i) (hl : i + 1 ≤ s.length) (hs : s.length ≤ 1000000000) (h : K (.tup [.c (.f (.str (s.take i))), .c (.f (.str (s.drop (i + 1)))), .c (.f (.bool true))]) [] []) :
    Does Tryz.prog 64 [st s, st [c]] [] K := by
  refine does Tryz.func64 rfl (by decide) ?_
  change Does Tryz.prog 93 _ _ _
  refine strIndex s c ?_
  rw [hi]
  refine SS.drawR follows (by decide) ?_
  have wi : IntKind.i64.wrap ((i : Int) + ([c].length : Nat)) = ((i + 1 : Nat) : Int) := wrap_i64 _ (by simp; omega) (by simp; omega)
  refine at2 (by omega) (by omega) ?_
  refine at2 (by rw [wi]; omega) (by rw [wi]; omega) ?_
  have e1 : List.take ((i : Int).toNat - 0) (List.drop 0 s) = s.take i := by simp
  have e2 : List.take (s.length - (IntKind.i64.wrap ((i : Int) + ([c].length : Nat))).toNat) (List.drop (IntKind.i64.wrap ((i : Int) + ([c].length : Nat))).toNat s) = s.drop (i + 1) := by rw [wi, Int.toNat_natCast, List.take_of_length_le]; simp
  have w0 : (0 : Int) ≤ IntKind.i64.wrap ((i : Int) + ([c].length : Nat)) := by rw [wi]; omega
  have w1 : IntKind.i64.wrap ((i : Int) + ([c].length : Nat)) ≤ (s.length : Int) := by rw [wi]; omega
  rw [← e1, ← e2] at h
  repeat' (first | refine And.intro rfl ?_ | refine And.intro (And.intro w0 (And.intro w1 rfl)) ?_ | fail)
  exact h

theorem cutG {s : List UInt8} {c : UInt8} {i : Nat} (hi : Lib.indexByte s c = i) (hl : i + 1 ≤ s.length) (hs : s.length ≤ 1000000000) (h : K (.tup [.c (.f (.str (s.take i))), .c (.f (.str (s.drop (i + 1)))), .c (.f (.bool true))]) [] []) :
    Does Tryz.prog 38 [st s, st [c]] [] K := by
  refine does Tryz.func38 rfl (by decide) ?_
  change Does Tryz.prog 64 _ _ _
  refine litCutG hi hl hs ?_
  exact h

theorem litCutNo {s : List UInt8} {c : UInt8} (hi : Lib.indexByte s c = -1) (h : K (.tup [.c (.f (.str s)), .c (.f (.str [])), .c (.f (.bool false))]) [] []) :
    Does Tryz.prog 64 [st s, st [c]] [] K := by
  refine does Tryz.func64 rfl (by decide) ?_
  change Does Tryz.prog 93 _ _ _
  refine strIndex s c ?_
  rw [hi]
  exact h

/-- strings.Cut, at one byte. -/
theorem cutAll {s : List UInt8} {c : UInt8} (hs : s.length ≤ 1000000000) (h1 : ∀ l r, cutB c s = some (l, r) → K (.tup [.c (.f (.str l)), .c (.f (.str r)), .c (.f (.bool true))]) [] [])
    (h0 : cutB c s = none → K (.tup [.c (.f (.str s)), .c (.f (.str [])), .c (.f (.bool false))]) [] []) : Does Tryz.prog 38 [st s, st [c]] [] K := by
  cases hc : cutB c s with
  | none =>
    refine does Tryz.func38 rfl (by decide) ?_
    change Does Tryz.prog 64 _ _ _
    refine litCutNo (index_free (cut_none hc)) ?_
    exact h0 hc
  | some x =>
    obtain ⟨l, r⟩ := x
    obtain ⟨e1, e2⟩ := cut_some hc
    refine cutG (i := l.length) (by rw [e1]; exact index_app e2) (by rw [e1]; simp) hs ?_
    have h := h1 l r hc
    rw [e1, show (l ++ c :: r).take l.length = l from by simp, show (l ++ c :: r).drop (l.length + 1) = r from by rw [List.drop_append]; simp]
    exact h

end

section
variable {K : AV → List Nat → List PO → Prop}

theorem strSplitG {s : List UInt8} {c : UInt8} {n : Nat} {ps rs : List (List UInt8)} (hP : PartsG c n ps rs) (hn : Lib.countByte s c = n) (hsl : n ≤ s.length ∧ s.length ≤ 1000000000) (hr0 : rs[0]? = some s) (h : K (cv (.slc 0 0 (n + 1) none true)) [] [.rows false 1 (ps.map rowStr)]) :
    Does Tryz.prog 65 [st s, st [c]] [] K := by
  refine Does.keep 0 rfl ?_
  refine does Tryz.func65 rfl (by decide) ?_
  change Does Tryz.prog 94 _ _ _
  refine does Tryz.func94 rfl (by decide) ?_
  change Does Tryz.prog 115 _ _ _
  refine strCount s c ?_
  rw [hn]
  have w1 : IntKind.i64.wrap ((n : Int) + 1) = ((n + 1 : Nat) : Int) := wrap_i64 _ (by omega) (by omega)
  have w2 : IntKind.i64.wrap (((n + 1 : Nat) : Int) - 1) = (n : Int) := by rw [wrap_i64 _ (by omega) (by omega)]; omega
  have w3 : IntKind.i64.wrap ((s.length : Int) + 1) = ((s.length + 1 : Nat) : Int) := wrap_i64 _ (by omega) (by omega)
  have wm : (if IntKind.i64.wrap ((s.length : Int) + 1) < IntKind.i64.wrap ((n : Int) + 1) then IntKind.i64.wrap ((s.length : Int) + 1) else IntKind.i64.wrap ((n : Int) + 1)) = ((n + 1 : Nat) : Int) := by
    rw [w1, w3]
    exact if_neg (by omega)
  refine at2 (by rw [wm]; omega) (Int.le_refl _) ?_
  rw [wm, Int.toNat_natCast]
  refine at2 (by show (16 : Nat) * ((n + 1 : Nat) : Int) ≤ _; omega) (by omega) ?_
  refine SS.loop (fun i : Nat => i ≤ n) (fun i => [(0, st (rs.getD i [])), (1, st [c]), (2, i64 0), (3, i64 n), (9, cv (.slc 0 0 (n + 1) none true)), (10, i64 i)])
    (fun i => [.rows false 1 ((doneS ps n i).map rowStr)]) (fun i => n - i) [] (At.mk' [0, 1, 2, 3, 9, 10] 0 (by simp) ⟨?_, rfl⟩ ?_ rfl (by simp) (by simp) (by simp)) ?_
  · have e0 : rs.getD 0 [] = s := by rw [List.getD_eq_getElem?_getD, hr0]; rfl
    rw [w2, e0]
    rfl
  · show [PO.rows false 1 (List.replicate (n + 1) [FC.str []])] = [PO.rows false 1 ((doneS ps n 0).map rowStr)]
    simp [doneS]
  intro i hi
  change i ≤ n at hi
  refine S_r ?_
  refine brc_intro (fun hlt => ?_) (fun hlt => ?_)
  · have hlt : i < n := by
      have := of_decide_eq_true hlt
      have : (i : Int) < (n : Int) := this
      omega
    obtain ⟨r, p, r', h1, h2, h3, h4, h5, h6, h7, h8⟩ := hP.step i hlt
    have e1 : rs.getD i [] = r := by rw [List.getD_eq_getElem?_getD, h1]; rfl
    have e3 : rs.getD (i + 1) [] = r' := by rw [List.getD_eq_getElem?_getD, h3]; rfl
    rw [e1]
    change Does Tryz.prog 116 _ _ _
    refine Does.alone 1 (index1 r c ?_)
    rw [h4]
    have v0 : IntKind.i64.wrap ((p.length : Int) + 0) = (p.length : Int) := by rw [wrap_i64 _ (by omega) (by omega)]; omega
    have v1 : IntKind.i64.wrap ((p.length : Int) + ([c].length : Nat)) = ((p.length + 1 : Nat) : Int) := wrap_i64 _ (by simp; omega) (by simp; omega)
    have hd : (doneS ps n i).length = n + 1 := by rw [doneS, List.length_append, List.length_take, List.length_replicate, hP.ln]; omega
    obtain ⟨q, hq⟩ : ∃ q, (doneS ps n i)[i]? = some q := ⟨_, List.getElem?_eq_getElem (by omega)⟩
    refine at2 (by rw [v0]; omega) (by rw [v0]; omega) ?_
    refine at2 (a := (0 : Int) ≤ (i : Int)) (b := (i : Int) < ((n + 1 : Nat) : Int)) (by omega) (by omega) (wr1 (rowStr q) (by simp [hq]) ?_)
    refine at2 (by rw [v1]; omega) (by rw [v1]; omega) ?_
    refine At.mk' [0, 1, 2, 3, 9, 10] (i + 1) ⟨hlt, by omega⟩ ⟨?_, rfl⟩ ?_ rfl (by simp) (by simp) (by decide)
    · rw [wrap_i64 ((i : Int) + 1) (by omega) (by omega)]
      rw [v1, e3, Int.toNat_natCast, List.take_of_length_le (by simp), h8]
      rfl
    · show [PO.rows false 1 ((List.map rowStr (doneS ps n i)).set (0 + Int.toNat (i : Int)) [FC.str (List.take ((IntKind.i64.wrap ((p.length : Int) + 0)).toNat - 0) (List.drop 0 r))])] = [PO.rows false 1 (List.map rowStr (doneS ps n (i + 1)))]
      rw [v0, Int.toNat_natCast, Int.toNat_natCast, Nat.zero_add, Nat.sub_zero, List.drop_zero, h7, ← doneS_set h2 (by omega) hP.ln, List.map_set]
  · have hlt : ¬ (i : Int) < (n : Int) := of_decide_eq_false hlt
    obtain rfl : i = n := by omega
    have hd : (doneS ps i i).length = i + 1 := by rw [doneS, List.length_append, List.length_take, List.length_replicate, hP.ln]; omega
    obtain ⟨q, hq⟩ : ∃ q, (doneS ps i i)[i]? = some q := ⟨_, List.getElem?_eq_getElem (by omega)⟩
    obtain ⟨p, hp⟩ : ∃ p, ps[i]? = some p := ⟨_, List.getElem?_eq_getElem (by rw [hP.ln]; omega)⟩
    have e1 : rs.getD i [] = p := by rw [List.getD_eq_getElem?_getD, hP.last, hp]; rfl
    have v2 : IntKind.i64.wrap ((i : Int) + 1) = ((i + 1 : Nat) : Int) := wrap_i64 _ (by omega) (by omega)
    have e4 : ((doneS ps i i).map rowStr).set (0 + Int.toNat (i : Int)) [FC.str p] = ps.map rowStr := by
      rw [Int.toNat_natCast, Nat.zero_add, show [FC.str p] = rowStr p from rfl, ← List.map_set, doneS_set hp (Nat.le_refl _) hP.ln, doneS, Nat.sub_self, List.replicate_zero, List.append_nil, List.take_of_length_le (by rw [hP.ln]; omega)]
    rw [e1]
    refine at2 (a := (0 : Int) ≤ (i : Int)) (b := (i : Int) < ((i + 1 : Nat) : Int)) (by omega) (by omega) (wr1 (rowStr q) (by simp [hq]) ?_)
    have e5 : i + 1 = (IntKind.i64.wrap ((i : Int) + 1)).toNat - 0 := by rw [v2]; rfl
    rw [← e4, e5] at h
    refine Or.inl (at2 (by rw [v2]; omega) (by rw [v2]; omega) ?_)
    exact ⟨1, [0], _, _, rfl, rfl, by decide, by decide, rfl, rfl, rfl, rfl, rfl, h⟩

/-- strings.Split, at one byte. -/
theorem splitAll {s : List UInt8} {c : UInt8} (hs : s.length ≤ 1000000000) (h : K (cv (.slc 0 0 (splitB c s).length none true)) [] [.rows false 1 ((splitB c s).map rowStr)]) : Does Tryz.prog 65 [st s, st [c]] [] K := by
  have hj := join_split c s
  obtain ⟨rs, hP, h0⟩ := parts_join (split_ne c s) (split_free c s) (by rw [hj]; exact hs)
  have hl := split_len c s
  rw [hj] at h0
  rw [show (splitB c s).length - 1 = Lib.countByte s c by omega] at hP
  refine strSplitG hP rfl ⟨count_len s, hs⟩ h0 ?_
  rw [hl] at h
  exact h

end

abbrev errS : PO := .errv 4
abbrev errR : PO := .errv 5

theorem Rel.below8 {B R : Nat → Prop} {w0 : World} {L : Nat → Loc} {H : List PO} {w w' : World} (h : Rel B R w0 L H w) (hb : Go.RowKit.Below w.heap.size w w') : Rel B R w0 L H w' := h.grow8 ⟨hb.os, hb.tape, hb.output, hb.size, hb.block⟩

section
variable {K : AV → List Nat → List PO → Prop}

/-- strconv.Atoi, of whatever text. -/
theorem atoiText (s : List UInt8) (hl : s.length ≤ 1000000000) (h1 : ∀ v, Lib.atoiAll s = .ok v → K (.tup [.c (.f (.int .i64 v)), .c .niliface]) [] [errS, errR])
    (h0 : (∀ v, Lib.atoiAll s ≠ .ok v) → ∀ n : Int, K (.tup [.c (.f (.int .i64 n)), .c (.iface 189 .junk)]) [] [errS, errR]) : Does Tryz.prog 79 [st s] [errS, errR] K := by
  refine ⟨⟨_, Tryz.func79, by decide, rfl⟩, fun B R w0 L w vs hrel hvs => ?_⟩
  obtain ⟨_, _, rfl, rfl, rfl⟩ := hvs
  obtain ⟨tS, pS, hS⟩ := hrel.obj 0 _ rfl
  obtain ⟨tR, pR, hR⟩ := hrel.obj 1 _ rfl
  have hsz : (ByteArray.mk s.toArray).size = s.length := rfl
  rcases ha : Lib.atoiAll s with v | _ | _
  · refine (Go.Proofs.Tryz.strconv_Atoi_ok ⟨s.toArray⟩ (by rw [hsz]; omega) v ha w).mono ?_
    rintro e w' ⟨rfl, hw⟩
    refine ⟨_, rfl, L, .tup [.c (.f (.int .i64 v)), .c .niliface], [], [errS, errR], Agree.refl _ _ _, Nat.le_refl _, ⟨_, rfl, _, _, rfl, rfl, _, _, rfl, rfl, rfl⟩, ?_, h1 v ha⟩
    rcases hw with rfl | ⟨t, rfl⟩
    · exact hrel
    · exact hrel.grow8 (bytes_grown _ _ _)
  · refine (Go.Proofs.Any.strconv_Atoi_syntax Go.Proofs.Tryz.laysC172 ⟨s.toArray⟩ (by rw [hsz]; omega) ha _ w hS (.inr ⟨_, _, rfl⟩)).mono ?_
    rintro e w' ⟨N, rfl, _, _, hw⟩
    exact ⟨_, rfl, L, .tup [.c (.f (.int .i64 _)), .c (.iface 189 .junk)], [], [errS, errR], Agree.refl _ _ _, Nat.le_refl _, ⟨_, rfl, _, _, rfl, rfl, _, _, rfl, ⟨_, rfl, rfl⟩, rfl⟩, hrel.below8 hw, h0 (fun v hv => by rw [ha] at hv; cases hv) _⟩
  · refine (Go.Proofs.Any.strconv_Atoi_range Go.Proofs.Tryz.laysC172 ⟨s.toArray⟩ (by rw [hsz]; omega) ha _ w hR (.inr ⟨_, _, rfl⟩)).mono ?_
    rintro e w' ⟨N, rfl, _, _, hw⟩
    exact ⟨_, rfl, L, .tup [.c (.f (.int .i64 _)), .c (.iface 189 .junk)], [], [errS, errR], Agree.refl _ _ _, Nat.le_refl _, ⟨_, rfl, _, _, rfl, rfl, _, _, rfl, ⟨_, rfl, rfl⟩, rfl⟩, hrel.below8 hw, h0 (fun v hv => by rw [ha] at hv; cases hv) _⟩

end
end Go.Mac
