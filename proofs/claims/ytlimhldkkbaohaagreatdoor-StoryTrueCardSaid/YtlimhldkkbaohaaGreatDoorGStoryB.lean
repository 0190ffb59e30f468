/- Texts that belong together; the first of them: story.Print. -/
import Derived.Test.YtlimhldkkbaohaaGreatDoorGStoryA
import Derived.Test.YtlimhldkkbaohaaGreatDoorQBld
import Derived.Test.YtlimhldkkbaohaaGreatDoorQDrawS
import Derived.Test.YtlimhldkkbaohaaGreatDoorGEqB
import Derived.Test.YtlimhldkkbaohaaGreatDoorGBase
import Derived.Test.YtlimhldkkbaohaaGreatDoorGDanceH
import Derived.Test.YtlimhldkkbaohaaGreatDoorGCount
import Derived.Test.YtlimhldkkbaohaaGreatDoorGDanceF

/- story.Print. -/
section
open Go Go.Proofs Go.Mac
set_option maxRecDepth 100000
namespace Go.Mac

section
variable {K : AV → List Nat → List PO → Prop}

set_option maxHeartbeats 2000000 in
theorem storyPrint {all es : List EvZ} {n o : Nat} {ro nn : Bool} {c : Option Nat} (hl : es.length = n) (hall : ∀ i, i < n → all[o + i]? = es[i]?) (hn : n ≤ 1000000) (h64 : ∀ e ∈ es, Ev64 e)
    (h1 : rightE 0 es = true → K (.tup [.c (.f (.str (printS es))), .c .niliface]) [] [powH, namesH, .rows ro 4 (all.map rowEv)])
    (h0 : rightE 0 es = false → K (.tup [.c (.f (.str [])), .c (.iface 70 (.f (.int .i64 1)))]) [] [powH, namesH, .rows ro 4 (all.map rowEv)]) :
    Does Tryz.prog 15 [cv (.slc 2 o n c nn)] [powH, namesH, .rows ro 4 (all.map rowEv)] K := by
  refine Does.keep 3 rfl ?_
  refine does Tryz.func15 rfl (by decide) ?_
  change Does Tryz.prog 34 _ _ _
  refine Does.on 3 [2] _ _ (storyRight hl hall (by omega) ?_)
  cases hr : rightE 0 es with
  | false => exact ⟨3, [0, 1, 2], _, _, rfl, rfl, by decide, by decide, rfl, rfl, rfl, rfl, rfl, h0 hr⟩
  | true =>
    intro bk
    refine SS.loop (fun i : Nat => i ≤ n) (fun i => [(4, cv (.hptr bk)), (11, cv (.slc 2 o n c nn)), (12, i64 n), (13, i64 i)]) (fun i => [powH, namesH, .rows ro 4 (all.map rowEv), bldH bk (printS (es.take i))]) (fun i => n - i) [3, 4, 5]
      (At.mk' [4, 11, 12, 13] 0 (by simp) ⟨rfl, rfl⟩ rfl rfl (by simp) (by simp) (by simp)) ?_
    intro i hi
    change i ≤ n at hi
    refine S_r ?_
    refine brc_intro (fun hlt => ?_) (fun hlt => ?_)
    · have hlt : i < n := by
        have := of_decide_eq_true hlt
        have : (i : Int) < (n : Int) := this
        omega
      obtain ⟨e, he⟩ : ∃ e, es[i]? = some e := ⟨_, List.getElem?_eq_getElem (by omega)⟩
      have hep := List.mem_of_getElem? he
      have hra : (all.map rowEv)[o + Int.toNat (i : Int)]? = some (rowEv e) := by rw [Int.toNat_natCast, List.getElem?_map, hall i hlt, he]; rfl
      have h6 := h64 e hep
      have hok := okE_spec.1 (right_mem hr e hep)
      have hbl := printS_len (es.take i) fun x hx => h64 x (List.mem_of_mem_take hx)
      rw [List.length_take] at hbl
      have lw := itoa_len h6.w.1 h6.w.2
      have lt := itoa_len h6.t.1 h6.t.2
      have lv := itoa_len h6.v.1 h6.v.2
      refine at2 (a := (0 : Int) ≤ (i : Int)) (b := (i : Int) < (n : Int)) (by omega) (by omega) (rdA (rowEv e) hra ?_)
      refine SS.drawR follows (by decide) ?_
      have hsp : ({ data := #[32] } : ByteArray).data.toList.length = 1 := rfl
      have hnl : ({ data := #[10] } : ByteArray).data.toList.length = 1 := rfl
      have a0 : (0 : Int) ≤ e.a := by omega
      have a1 : e.a < ((4 : Nat) : Int) := by omega
      have hnm : (namesE.map FC.str)[0 + e.a.toNat * 1]? = some (.str (namesE.getD e.a.toNat [])) := by
        rcases (show e.a = 1 ∨ e.a = 2 ∨ e.a = 3 by omega) with h | h | h <;> rw [h] <;> rfl
      have ln : (namesE.getD e.a.toNat []).length ≤ 4 := by
        rcases (show e.a = 1 ∨ e.a = 2 ∨ e.a = 3 by omega) with h | h | h <;> rw [h] <;> decide
      refine at2 a0 a1 (Exists.intro (FC.str (namesE.getD e.a.toNat [])) (And.intro hnm ?_))
      change Does Tryz.prog 36 _ _ _
      refine Does.on 5 [0] _ _ (strItoa e.w h6.w.1 h6.w.2 ?_)
      repeat' (first | refine And.intro rfl ?_ | refine And.intro (And.intro a0 (And.intro a1 rfl)) ?_ | refine And.intro (Exists.intro (FC.str (namesE.getD e.a.toNat [])) (And.intro hnm rfl)) ?_ | refine And.intro (And.intro (by simp only [List.length_append, hsp]; omega) rfl) ?_ | refine And.intro (by simp only [List.length_append, hsp]; omega) ?_ | fail)
      change Does Tryz.prog 36 _ _ _
      refine Does.on 5 [0] _ _ (strItoa e.t h6.t.1 h6.t.2 ?_)
      repeat' (first | refine And.intro rfl ?_ | refine And.intro (And.intro a0 (And.intro a1 rfl)) ?_ | refine And.intro (Exists.intro (FC.str (namesE.getD e.a.toNat [])) (And.intro hnm rfl)) ?_ | refine And.intro (And.intro (by simp only [List.length_append, hsp]; omega) rfl) ?_ | refine And.intro (by simp only [List.length_append, hsp]; omega) ?_ | fail)
      change Does Tryz.prog 36 _ _ _
      refine Does.on 5 [0] _ _ (strItoa e.v h6.v.1 h6.v.2 ?_)
      repeat' (first | refine And.intro rfl ?_ | refine And.intro (And.intro a0 (And.intro a1 rfl)) ?_ | refine And.intro (Exists.intro (FC.str (namesE.getD e.a.toNat [])) (And.intro hnm rfl)) ?_ | refine And.intro (And.intro (by simp only [List.length_append, hsp]; omega) rfl) ?_ | refine And.intro (by simp only [List.length_append, hsp]; omega) ?_ | fail)
      refine And.intro (by simp only [List.length_append, hsp, hnl]; omega) ?_
      change Does Tryz.prog 35 _ _ _
      have eX : Lib.itoa e.w ++ [32] ++ namesE.getD e.a.toNat [] ++ [32] ++ Lib.itoa e.t ++ [32] ++ Lib.itoa e.v ++ [10] = printE e ++ [10] := by simp [printE, wordsE, joinB]
      refine Does.on 5 [3] _ _ (bldWrite (k := bk) (bs := printS (es.take i)) (s := Lib.itoa e.w ++ [32] ++ namesE.getD e.a.toNat [] ++ [32] ++ Lib.itoa e.t ++ [32] ++ Lib.itoa e.v ++ [10]) (by simp) (by simp only [List.length_append, List.length_cons, List.length_nil]; omega) ?_)
      rw [eX, ← List.append_assoc, ← printS_take he]
      repeat' (first | refine And.intro rfl ?_ | refine And.intro (And.intro a0 (And.intro a1 rfl)) ?_ | refine And.intro (Exists.intro (FC.str (namesE.getD e.a.toNat [])) (And.intro hnm rfl)) ?_ | refine And.intro (And.intro (by simp only [List.length_append, hsp]; omega) rfl) ?_ | refine And.intro (And.intro (by simp only [List.length_append, hsp, hnl]; omega) rfl) ?_ | fail)
      refine At.mk' [4, 11, 12, 13] (i + 1) ⟨hlt, by omega⟩ ⟨?_, rfl⟩ rfl rfl (by simp) (by simp) (by decide)
      rw [wrap_i64 _ (by omega) (by omega)]
      rfl
    · have hlt : ¬ (i : Int) < (n : Int) := of_decide_eq_false hlt
      obtain rfl : n = i := by omega
      rw [List.take_of_length_le (by omega)]
      change Does Tryz.prog 37 _ _ _
      refine Does.on 4 [3] _ _ (bldString ?_)
      exact ⟨3, [0, 1, 2], _, _, rfl, rfl, by decide, by decide, rfl, rfl, rfl, rfl, rfl, h1 hr⟩

end
end Go.Mac
end

/- story.Parse: whatever the text. -/
section
open Go Go.Proofs Go.Mac
set_option maxRecDepth 100000
namespace Go.Mac

attribute [local irreducible] drawnR

section
variable {K : AV → List Nat → List PO → Prop}

set_option maxHeartbeats 400000 in
theorem storyParse {s : List UInt8} (hs : s.length ≤ 100000000) (h1 : ∀ xs, parseS [] s = some xs → K (.tup [.c (.slc 4 0 xs.length none false), .c .niliface]) [] [powH, errS, errR, namesH, .rows false 4 (xs.map rowEv)])
    (h0 : parseS [] s = none → ∀ e i : Int, K (.tup [.c .nilslc, .c (.iface 71 (.ptr 4 0))]) [] [powH, errS, errR, namesH, .one [.f (.int .i64 e), .f (.int .i64 i)]]) :
    Does Tryz.prog 16 [st s] [powH, errS, errR, namesH] K := by
  refine Does.keep 4 rfl ?_
  refine does Tryz.func16 rfl (by decide) ?_
  refine SS.nil 4 4 (by decide) rfl ?_
  refine SS.loop (fun x : List UInt8 × List EvZ => x.2.length + x.1.length ≤ s.length ∧ rightE 0 x.2 = true ∧ parseS [] s = parseS x.2 x.1) (fun x => [(0, st x.1), (4, cv (.slc 4 0 x.2.length none false))]) (fun x => [powH, errS, errR, namesH, .rows false 4 (x.2.map rowEv)]) (fun x => x.1.length) [4, 5, 6, 7]
    (At.mk' [0, 4] (s, []) ⟨by simp, rfl, rfl⟩ ⟨rfl, rfl⟩ rfl rfl (by simp) (by simp) (by simp)) ?_
  rintro ⟨r, xs⟩ ⟨hx, hr0, hp⟩
  dsimp only at hx hr0 hp
  refine S_r ?_
  refine brc_intro (fun hne => ?_) (fun hne => ?_)
  · have hne : r ≠ [] := by simpa using hne
    change Does Tryz.prog 38 _ _ _
    refine Does.alone 5 (cutAll (s := r) (c := 10) (by omega) (fun l r' hc => ?_) fun hc => ?_)
    · have hcl := cut_len hc
      have hst := parseS_step (acc := xs) hc
      change Does Tryz.prog 39 _ _ _
      refine Does.on 5 [0, 1, 2, 3] _ _ (storyLine (s := l) (by omega) (fun e he => ?_) fun he e => ?_)
      · rw [he] at hst
        dsimp only at hst
        refine SS.drawR follows (by decide) ?_
        have hL : (if IntKind.i64.wrap ((xs.length : Int) - 1) > 0 then IntKind.i64.wrap ((xs.length : Int) - 1) else 0) = ((xs.length - 1 : Nat) : Int) := by
          rw [wrap_i64 _ (by omega) (by omega)]
          split <;> omega
        have hys : List.take (xs.length - (xs.length - 1)) (List.drop (0 + (xs.length - 1)) (xs.map rowEv)) ++ [rowEv e] = (xs.drop (xs.length - 1) ++ [e]).map rowEv := by
          rw [List.map_append, List.map_drop, Nat.zero_add, List.take_of_length_le (by simp)]
          rfl
        have hA1 : 0 + (xs.length - 1) + (xs.length - (xs.length - 1)) ≤ (xs.map rowEv).length := by rw [List.length_map]; omega
        have hA2 : (xs.length - (xs.length - 1) + 1) * 32 ≤ 140737488355328 := by omega
        have hA3 : xs.length - (xs.length - 1) + 1 ≤ 9223372036854775807 := by omega
        have hC : (0 : Int) ≤ ((xs.length - 1 : Nat) : Int) ∧ ((xs.length - 1 : Nat) : Int) ≤ (xs.length : Int) ∧ (xs.length : Int) ≤ (xs.length : Int) ∧ (xs.length : Int) ≤ ((xs.length : Nat) : Int) := by omega
        repeat' (first | refine draw_known rfl (fun _ => rfl) (fun _ => rfl) (fun _ => rfl) ?_ | fail)
        refine draw_eff2 rfl rfl ?_ ?_
        · refine eff_known (v := i64 ((xs.length - 1 : Nat) : Int)) (fun _ => rfl) (fun K' => congrArg (fun z => K' (fcv (.int .i64 z)) [] _) hL) (fun _ => rfl) ?_
          repeat' (first | refine And.intro rfl ?_ | refine And.intro (And.intro hC.1 (And.intro hC.2.1 (And.intro hC.2.2.1 (And.intro hC.2.2.2 rfl)))) ?_ | fail)
          change drawnR _ _ _ _ _ _ _ _ _ _
          refine draw_cond (v := cv (.slc 4 (0 + (xs.length - 1)) (xs.length - (xs.length - 1)) (some (xs.length - (xs.length - 1))) (false || Nat.blt 0 xs.length))) (C := (0 : Int) ≤ ((xs.length - 1 : Nat) : Int) ∧ ((xs.length - 1 : Nat) : Int) ≤ (xs.length : Int) ∧ (xs.length : Int) ≤ (xs.length : Int) ∧ (xs.length : Int) ≤ ((xs.length : Nat) : Int)) rfl (fun _ => rfl) (by intro _ c k; exact ⟨c.1, c.2.1, c.2.2.1, c.2.2.2, k⟩) (by intro _; rfl) hC ?_
          refine draw_eff1 rfl rfl ?_
          refine eff_known (fun _ => rfl) (fun _ => rfl) (fun _ => rfl) ?_
          repeat' (first | refine And.intro rfl ?_ | refine And.intro (And.intro hC.1 (And.intro hC.2.1 (And.intro hC.2.2.1 (And.intro hC.2.2.2 rfl)))) ?_ | fail)
          change drawnR _ _ _ _ _ _ _ _ _ _
          refine draw_eff1 rfl rfl ?_
          refine eff_run (fun _ => rfl) ?_
          refine And.intro (Nat.le_refl 1) (Or.inr (And.intro rfl (And.intro Nat.zero_lt_one (And.intro hA1 (And.intro hA2 (And.intro hA3 ?_))))))
          repeat' (first | refine And.intro rfl ?_ | refine And.intro (And.intro hC.1 (And.intro hC.2.1 (And.intro hC.2.2.1 (And.intro hC.2.2.2 rfl)))) ?_ | fail)
          change drawnR _ _ _ _ _ _ _ _ _ _
          refine draw_eff1 rfl rfl ?_
          refine eff_run (fun _ => rfl) ?_
          change Does Tryz.prog 34 _ _ _
          refine Does.on 8 [7] _ _ (storyRightR (n := xs.length - (xs.length - 1) + 1) (es := xs.drop (xs.length - 1) ++ [e]) hys (by simp) (by omega) ?_)
          rw [right_last hr0]
          cases hre : rightE 0 (xs ++ [e]) with
          | false =>
            repeat' (first | refine And.intro rfl ?_ | refine And.intro (And.intro hC.1 (And.intro hC.2.1 (And.intro hC.2.2.1 (And.intro hC.2.2.2 rfl)))) ?_ | fail)
            change drawnR _ _ _ _ _ _ _ _ _ _
            repeat' (first | refine draw_known rfl (fun _ => rfl) (fun _ => rfl) (fun _ => rfl) ?_ | fail)
            refine draw_end rfl rfl rfl ?_
            exact ⟨9, [0, 1, 2, 3, 8], [powH, errS, errR, namesH, .one [.f (.int .i64 3), .f (.int .i64 xs.length)]], .tup [.c .nilslc, .c (.iface 71 (.ptr 4 0))], rfl, rfl, by decide, by decide, rfl, rfl, rfl, rfl, rfl, h0 (by rw [hp, hst, if_neg (by simp [hre])]) _ _⟩
          | true =>
            repeat' (first | refine And.intro rfl ?_ | refine And.intro (And.intro hC.1 (And.intro hC.2.1 (And.intro hC.2.2.1 (And.intro hC.2.2.2 rfl)))) ?_ | fail)
            change drawnR _ _ _ _ _ _ _ _ _ _
            repeat' (first | refine draw_known rfl (fun _ => rfl) (fun _ => rfl) (fun _ => rfl) ?_ | fail)
            refine draw_end rfl rfl rfl ?_
            refine And.intro (by simp) (Or.inl (And.intro rfl (And.intro (by simp) (And.intro (by show (xs.length + 1) * 32 ≤ _; omega) (And.intro (by show xs.length + 1 ≤ _; omega) ?_)))))
            refine At.mk' [0, 4] (r', xs ++ [e]) ⟨⟨by simp; omega, hre, ?_⟩, by dsimp only; omega⟩ ⟨?_, rfl⟩ ?_ rfl (by simp) (by simp) (by decide)
            · dsimp only
              rw [hp, hst, if_pos hre]
            · simp only [List.length_append, List.length_singleton]
              rfl
            · simp only [List.map_append, List.map_cons, List.map_nil]
              rfl
        · refine eff_known (fun _ => rfl) (fun _ => rfl) (fun _ => rfl) ?_
          repeat' (first | refine And.intro rfl ?_ | refine And.intro (And.intro hC.1 (And.intro hC.2.1 (And.intro hC.2.2.1 (And.intro hC.2.2.2 rfl)))) ?_ | fail)
          change drawnR _ _ _ _ _ _ _ _ _ _
          refine draw_eff1 rfl rfl ?_
          refine eff_known (v := i64 ((xs.length - 1 : Nat) : Int)) (fun _ => rfl) (fun K' => congrArg (fun z => K' (fcv (.int .i64 z)) [] _) hL) (fun _ => rfl) ?_
          repeat' (first | refine And.intro rfl ?_ | refine And.intro (And.intro hC.1 (And.intro hC.2.1 (And.intro hC.2.2.1 (And.intro hC.2.2.2 rfl)))) ?_ | fail)
          change drawnR _ _ _ _ _ _ _ _ _ _
          refine draw_cond (v := cv (.slc 4 (0 + (xs.length - 1)) (xs.length - (xs.length - 1)) (some (xs.length - (xs.length - 1))) (false || Nat.blt 0 xs.length))) (C := (0 : Int) ≤ ((xs.length - 1 : Nat) : Int) ∧ ((xs.length - 1 : Nat) : Int) ≤ (xs.length : Int) ∧ (xs.length : Int) ≤ (xs.length : Int) ∧ (xs.length : Int) ≤ ((xs.length : Nat) : Int)) rfl (fun _ => rfl) (by intro _ c k; exact ⟨c.1, c.2.1, c.2.2.1, c.2.2.2, k⟩) (by intro _; rfl) hC ?_
          refine draw_eff1 rfl rfl ?_
          refine eff_run (fun _ => rfl) ?_
          refine And.intro (Nat.le_refl 1) (Or.inr (And.intro rfl (And.intro Nat.zero_lt_one (And.intro hA1 (And.intro hA2 (And.intro hA3 ?_))))))
          repeat' (first | refine And.intro rfl ?_ | refine And.intro (And.intro hC.1 (And.intro hC.2.1 (And.intro hC.2.2.1 (And.intro hC.2.2.2 rfl)))) ?_ | fail)
          change drawnR _ _ _ _ _ _ _ _ _ _
          refine draw_eff1 rfl rfl ?_
          refine eff_run (fun _ => rfl) ?_
          change Does Tryz.prog 34 _ _ _
          refine Does.on 8 [7] _ _ (storyRightR (n := xs.length - (xs.length - 1) + 1) (es := xs.drop (xs.length - 1) ++ [e]) hys (by simp) (by omega) ?_)
          rw [right_last hr0]
          cases hre : rightE 0 (xs ++ [e]) with
          | false =>
            repeat' (first | refine And.intro rfl ?_ | refine And.intro (And.intro hC.1 (And.intro hC.2.1 (And.intro hC.2.2.1 (And.intro hC.2.2.2 rfl)))) ?_ | fail)
            change drawnR _ _ _ _ _ _ _ _ _ _
            repeat' (first | refine draw_known rfl (fun _ => rfl) (fun _ => rfl) (fun _ => rfl) ?_ | fail)
            refine draw_end rfl rfl rfl ?_
            exact ⟨9, [0, 1, 2, 3, 8], [powH, errS, errR, namesH, .one [.f (.int .i64 3), .f (.int .i64 xs.length)]], .tup [.c .nilslc, .c (.iface 71 (.ptr 4 0))], rfl, rfl, by decide, by decide, rfl, rfl, rfl, rfl, rfl, h0 (by rw [hp, hst, if_neg (by simp [hre])]) _ _⟩
          | true =>
            repeat' (first | refine And.intro rfl ?_ | refine And.intro (And.intro hC.1 (And.intro hC.2.1 (And.intro hC.2.2.1 (And.intro hC.2.2.2 rfl)))) ?_ | fail)
            change drawnR _ _ _ _ _ _ _ _ _ _
            repeat' (first | refine draw_known rfl (fun _ => rfl) (fun _ => rfl) (fun _ => rfl) ?_ | fail)
            refine draw_end rfl rfl rfl ?_
            refine And.intro (by simp) (Or.inl (And.intro rfl (And.intro (by simp) (And.intro (by show (xs.length + 1) * 32 ≤ _; omega) (And.intro (by show xs.length + 1 ≤ _; omega) ?_)))))
            refine At.mk' [0, 4] (r', xs ++ [e]) ⟨⟨by simp; omega, hre, ?_⟩, by dsimp only; omega⟩ ⟨?_, rfl⟩ ?_ rfl (by simp) (by simp) (by decide)
            · dsimp only
              rw [hp, hst, if_pos hre]
            · simp only [List.length_append, List.length_singleton]
              rfl
            · simp only [List.map_append, List.map_cons, List.map_nil]
              rfl
      · rw [he] at hst
        dsimp only at hst
        refine SS.drawR follows (by decide) ?_
        repeat' (first | refine draw_known rfl (fun _ => rfl) (fun _ => rfl) (fun _ => rfl) ?_ | refine draw_skip rfl (fun _ => rfl) (fun _ => rfl) ?_ | refine draw_eff1 rfl rfl ?_ | refine draw_eff2 rfl rfl ?_ ?_ | refine eff_skip (fun _ => rfl) (fun _ => rfl) ?_ | refine draw_end rfl rfl rfl ?_ | refine And.intro rfl ?_ | fail)
        all_goals exact ⟨7, [0, 1, 2, 3, 6], [powH, errS, errR, namesH, .one [.f (.int .i64 3), .f (.int .i64 xs.length)]], .tup [.c .nilslc, .c (.iface 71 (.ptr 4 0))], rfl, rfl, by decide, by decide, rfl, rfl, rfl, rfl, rfl, h0 (by rw [hp, hst]) _ _⟩
    · have hst := parseS_cut (acc := xs) hne hc
      change Does Tryz.prog 39 _ _ _
      refine Does.on 5 [0, 1, 2, 3] _ _ (storyLine (s := r) (by omega) (fun e he => ?_) fun he e => ?_)
      · refine SS.drawR follows (by decide) ?_
        repeat' (first | refine draw_known rfl (fun _ => rfl) (fun _ => rfl) (fun _ => rfl) ?_ | refine draw_skip rfl (fun _ => rfl) (fun _ => rfl) ?_ | refine draw_eff1 rfl rfl ?_ | refine draw_eff2 rfl rfl ?_ ?_ | refine eff_skip (fun _ => rfl) (fun _ => rfl) ?_ | refine draw_end rfl rfl rfl ?_ | refine And.intro rfl ?_ | fail)
        all_goals exact ⟨7, [0, 1, 2, 3, 6], [powH, errS, errR, namesH, .one [.f (.int .i64 3), .f (.int .i64 xs.length)]], .tup [.c .nilslc, .c (.iface 71 (.ptr 4 0))], rfl, rfl, by decide, by decide, rfl, rfl, rfl, rfl, rfl, h0 (by rw [hp, hst]) _ _⟩
      · refine SS.drawR follows (by decide) ?_
        repeat' (first | refine draw_known rfl (fun _ => rfl) (fun _ => rfl) (fun _ => rfl) ?_ | refine draw_skip rfl (fun _ => rfl) (fun _ => rfl) ?_ | refine draw_eff1 rfl rfl ?_ | refine draw_eff2 rfl rfl ?_ ?_ | refine eff_skip (fun _ => rfl) (fun _ => rfl) ?_ | refine draw_end rfl rfl rfl ?_ | refine And.intro rfl ?_ | fail)
        all_goals exact ⟨7, [0, 1, 2, 3, 6], [powH, errS, errR, namesH, .one [.f (.int .i64 3), .f (.int .i64 xs.length)]], .tup [.c .nilslc, .c (.iface 71 (.ptr 4 0))], rfl, rfl, by decide, by decide, rfl, rfl, rfl, rfl, rfl, h0 (by rw [hp, hst]) _ _⟩
  · have hne : r = [] := by simpa using hne
    subst hne
    rw [parseS_nil] at hp
    exact ⟨5, [0, 1, 2, 3, 4], _, _, rfl, rfl, by decide, by decide, rfl, rfl, rfl, rfl, rfl, h1 xs hp⟩

end
end Go.Mac
end

/- A story is printed, and read: StoryBack, StoryJoins. -/
section
open Go Go.Proofs Go.Mac
set_option maxRecDepth 100000
namespace Go.Mac

abbrev storyW : List EvZ := [⟨3, 1, 1, 2⟩, ⟨9, 3, 0, -1⟩]
abbrev txtS : List UInt8 := [51, 32, 99, 97, 109, 101, 32, 49, 32, 50, 10, 57, 32, 116, 111, 108, 100, 32, 48, 32, 45, 49, 10]

theorem itoa_2 : Lib.itoa 2 = [50] := by simp [Lib.itoa, Lib.decDigits]
theorem itoa_3 : Lib.itoa 3 = [51] := by simp [Lib.itoa, Lib.decDigits]
theorem itoa_9 : Lib.itoa 9 = [57] := by simp [Lib.itoa, Lib.decDigits]

theorem printSW : printS storyW = txtS := by
  simp [printS, printE, wordsE, joinB, namesE, itoa_0, itoa_1, itoa_2, itoa_3, itoa_9, itoa_m1]

theorem storyW64 : ∀ e ∈ storyW, Ev64 e := fun e he => by
  simp only [List.mem_cons, List.not_mem_nil, or_false] at he
  rcases he with rfl | rfl <;> exact ⟨⟨by decide, by decide⟩, ⟨by decide, by decide⟩, ⟨by decide, by decide⟩, ⟨by decide, by decide⟩⟩

theorem storyWr : rightE 0 storyW = true := by decide

theorem parseSW : parseS [] txtS = some storyW := by
  rw [← printSW]
  exact parse_printS storyW [] storyWr storyW64

section
variable {K : AV → List Nat → List PO → Prop}

theorem storied (h : K (bl true) [] [powH, errS, errR, namesH]) : Does Tryz.prog 12 [] [powH, errS, errR, namesH] K := by
  refine Does.keep 4 rfl ?_
  refine does Tryz.func12 rfl (by decide) ?_
  change Does Tryz.prog 15 _ _ _
  refine Does.on 5 [0, 3, 4] _ _ (storyPrint (all := storyW) (es := storyW) (n := 2) (o := 0) (ro := false) rfl (fun i _ => by rw [Nat.zero_add]) (by decide) storyW64 (fun _ => ?_) fun hr => absurd (storyWr.symm.trans hr) (by decide))
  rw [printSW]
  change Does Tryz.prog 16 _ _ _
  refine Does.on 5 [0, 1, 2, 3] _ _ (storyParse (s := txtS) (by decide) (fun xs hx => ?_) fun hx => by rw [parseSW] at hx; cases hx)
  obtain rfl : storyW = xs := Option.some.inj (parseSW.symm.trans hx)
  change Does Tryz.prog 17 _ _ _
  refine Does.on 6 [4, 5] _ _ (equalEv (xs := storyW) (ys := storyW) (by decide) (fun _ => ?_) fun h => absurd rfl h)
  exact ⟨4, [0, 1, 2, 3], _, _, rfl, rfl, by decide, by decide, rfl, rfl, rfl, rfl, rfl, h⟩

end

end Go.Mac
end

/- What is said in a dance is a right story. -/
section
open Go Go.Proofs Go.Mac
set_option maxRecDepth 100000
namespace Go.Mac

/-- What is said so far is in order, and in its range; and what will be said is one of three. -/
structure EvG (m : MZ) : Prop where
  ps : ∀ p ∈ m.ps, ∀ i ∈ p, i.op = 16 → 1 ≤ i.a ∧ i.a ≤ 3
  rt : rightE 0 m.el = true
  le : ∀ e ∈ m.el, e.w ≤ m.k
  v : ∀ e ∈ m.el, In64 e.v

theorem EvG.same {m m' : MZ} (h : EvG m) (hp : m'.ps = m.ps) (he : m'.el = m.el) (hk : m.k ≤ m'.k) : EvG m' :=
  ⟨by rw [hp]; exact h.ps, by rw [he]; exact h.rt, fun e he' => by rw [he] at he'; have := h.le e he'; omega, fun e he' => by rw [he] at he'; exact h.v e he'⟩

theorem far_el {m m' : MZ} {t : Nat} {x : ThZ} {i : InsZ} (h : farZ m t x i = some m') :
    m'.ps = m.ps ∧ m'.k = m.k ∧ (m'.el = m.el ∨ (i.op = 16 ∧ m'.el = m.el ++ [⟨m.k, i.a, t, IntKind.i64.wrap (rgZ x.rg i.b)⟩])) := by
  unfold farZ at h
  by_cases h16 : i.op = 16
  · rw [h16] at h
    simp only [reduceIte, show ¬ ((16 : Int) = 6) by decide, show ¬ ((16 : Int) = 8) by decide, show ¬ ((16 : Int) = 9) by decide, show ¬ ((16 : Int) = 14) by decide] at h
    obtain rfl := Option.some.inj h
    exact ⟨rfl, rfl, .inr ⟨h16, rfl⟩⟩
  · repeat' split at h
    all_goals first
      | (cases h; done)
      | (exact absurd ‹i.op = 16› h16)
      | (obtain rfl := Option.some.inj h; exact ⟨rfl, rfl, .inl rfl⟩)

theorem wrap_in (x : Int) : In64 (IntKind.i64.wrap x) := by
  unfold In64
  simp only [IntKind.wrap, IntKind.bits, IntKind.signed]
  simp
  split <;> omega

theorem last_le {w k : Int} {l : List EvZ} (hw : w ≤ k) (h : ∀ e ∈ l, e.w ≤ k) : (l.getLast?.map (·.w)).getD w ≤ k := by
  cases hl : l.getLast? with
  | none => exact hw
  | some e => exact h e (List.mem_of_getLast? hl)

theorem EvG.go {m : MZ} (hw : WF m) (h : EvG m) {t : Nat} (ht : t < m.ts.length) : EvG (goZ m t).2 := by
  have h0 : EvG (onZ m t) := h.same rfl rfl (by simp only [onZ, MZ.th]; omega)
  unfold goZ doZ
  split
  · exact h0.same rfl rfl (Nat.le_refl _)
  · split
    · rename_i m' hf
      obtain ⟨e1, e2, e3 | ⟨h16, e3⟩⟩ := far_el hf
      · exact h0.same e1 e3 (Nat.le_of_eq e2.symm)
      · have hm : insZ m t (thZ m t).pc ∈ m.ps.getD t [] := by
          unfold insZ at h16 ⊢
          generalize m.ps.getD t [] = p at h16 ⊢
          rw [List.getD_eq_getElem?_getD] at h16 ⊢
          cases hg : p[(thZ m t).pc]? with
          | none => rw [hg] at h16; exact absurd h16 (by decide)
          | some i => exact List.mem_of_getElem? hg
        have hp : m.ps.getD t [] ∈ m.ps := by
          rw [List.getD_eq_getElem?_getD] at hm ⊢
          cases hg : m.ps[t]? with
          | none => rw [hg] at hm; simp at hm
          | some p => exact List.mem_of_getElem? hg
        have ha := h.ps _ hp _ hm h16
        have hn := hw.n
        have hk : (onZ m t).k = m.k + 1 := rfl
        have hl : (onZ m t).el = m.el := rfl
        have hin : ∀ x : Int, In64 (IntKind.i64.wrap x) := fun x => wrap_in x
        refine ⟨by rw [e1]; exact h0.ps, ?_, ?_, ?_⟩
        · rw [e3, hl, right_app, h.rt, Bool.true_and, rightE, rightE, Bool.and_true]
          have := last_le (w := 0) (k := m.k) (by omega) fun e he => h.le e he
          refine okE_spec.2 ⟨?_, ha.1, ha.2, ?_, ?_⟩
          · show _ < ((onZ m t).k : Int)
            rw [hk]; omega
          · show (0 : Int) ≤ (t : Int)
            omega
          · show (t : Int) < 16
            omega
        · intro e he
          rw [e3, hl] at he
          rw [e2, hk]
          rcases List.mem_append.1 he with he | he
          · have := h.le e he; omega
          · obtain rfl := List.mem_singleton.1 he
            show ((onZ m t).k : Int) ≤ _
            rw [hk]; omega
        · intro e he
          rw [e3, hl] at he
          rcases List.mem_append.1 he with he | he
          · exact h.v e he
          · obtain rfl := List.mem_singleton.1 he
            exact hin _
    · exact h0.same rfl rfl (Nat.le_refl _)

theorem EvG.move {m : MZ} (hw : WF m) (h : EvG m) (x : MoveZ) : EvG (moveZ m x) := by
  unfold moveZ
  split
  · unfold pokeZ
    repeat' split
    all_goals exact h.same rfl rfl (Nat.le_refl _)
  · unfold stepZ
    split
    · exact h
    · rename_i ht
      repeat' split
      all_goals first | exact h | exact h.go hw (by omega)

theorem EvG.moves {m : MZ} (hw : WF m) (h : EvG m) : ∀ l : List MoveZ, EvG (movesZ m l) := fun l => by
  unfold movesZ
  induction l generalizing m with
  | nil => exact h
  | cons x l ih => exact ih (by have := hw.moves [x]; exact this) (h.move hw x)

theorem say_three : ((List.range 6).all fun k => (List.range 16).all fun n => (List.range 7).all fun R =>
    (kindPs (k + 1) (n + 1) R).all fun p => p.all fun i => i.op != 16 || (decide (1 ≤ i.a) && decide (i.a ≤ 3))) = true := by decide +kernel

theorem story_right {k n R : Nat} (hk : 1 ≤ k ∧ k ≤ 6) (hn : 1 ≤ n ∧ n ≤ 16) (hR : R ≤ 6) (hw : WF (danceM k n R)) (l : List MoveZ) : rightE 0 (movesZ (danceM k n R) l).el = true ∧ ∀ e ∈ (movesZ (danceM k n R) l).el, Ev64 e := by
  have h0 : EvG (danceM k n R) := by
    refine ⟨fun p hp i hi h16 => ?_, rfl, fun e he => absurd he (by simp [danceM, mz0]), fun e he => absurd he (by simp [danceM, mz0])⟩
    have h := say_three
    simp only [List.all_eq_true, List.mem_range] at h
    have h2 := h (k - 1) (by omega) (n - 1) (by omega) R (by omega)
    rw [show k - 1 + 1 = k by omega, show n - 1 + 1 = n by omega] at h2
    have h3 := h2 p hp i hi
    simp only [Bool.or_eq_true, Bool.and_eq_true, decide_eq_true_eq, bne_iff_ne] at h3
    rcases h3 with h3 | h3
    · exact absurd h16 h3
    · exact h3
  have h1 := h0.moves hw l
  have h2 := (hw.moves l).k
  refine ⟨h1.rt, fun e he => ?_⟩
  have ho := okE_spec.1 (right_mem h1.rt e he)
  have hle := h1.le e he
  exact ⟨⟨by omega, by omega⟩, ⟨by omega, by omega⟩, ⟨by omega, by omega⟩, h1.v e he⟩

end Go.Mac
end

/- What is said in a dance is a story: StoryTrue. -/
section
open Go Go.Proofs Go.Mac
set_option maxRecDepth 100000
namespace Go.Mac

theorem kind_w0 {k n R : Nat} (hk : 1 ≤ k ∧ k ≤ 6) (hn : 1 ≤ n ∧ n ≤ 16) (hR : R ≤ 6) : WF (danceM k n R) := by
  obtain ⟨_, _, hlen, hnc, hright, _, _⟩ := kindAll hk hn (show R ≤ 20 by omega)
  exact mz0_wf (by omega) (by rw [List.length_replicate]; exact hnc) (by rw [List.length_replicate]; exact hright) fun x hx => by rw [(List.mem_replicate.1 hx).2]; omega

set_option maxHeartbeats 2000000 in
theorem storyTrue (k : Int) (_hk : -9223372036854775808 ≤ k ∧ k ≤ 9223372036854775807) (n : Int) (_hn : -9223372036854775808 ≤ n ∧ n ≤ 9223372036854775807) (R : Int) (_hR : -9223372036854775808 ≤ R ∧ R ≤ 9223372036854775807) (ms : List MoveZ) :
    Does Tryz.prog 4 [i64 k, i64 n, i64 R, cv (.slc 0 0 ms.length none false)] [.rows true 2 (ms.map rowMove), rtH, powH, errS, errR, namesH] fun v _ _ => v = bl true := by
  refine does Tryz.func4 rfl (by decide) ?_
  change Does Tryz.prog 12 _ _ _
  refine Does.on 6 [2, 3, 4, 5] _ _ (storied ?_)
  change Does Tryz.prog 6 _ _ _
  refine Does.on 6 [1] _ _ (danced ?_)
  refine brc_intro (fun _ => rfl) (fun h => ?_)
  have hms : ms.length ≤ 500 := by
    have := of_decide_eq_false h
    omega
  change Does Tryz.prog 8 _ _ _
  refine Does.alone 6 (ball k n R ?_)
  obtain ⟨k, hk, hk6⟩ := pick6 k
  obtain ⟨n, hn, hn16⟩ := pick16b n
  obtain ⟨R, hR, hR6⟩ := pick7 R
  rw [hk, hn, hR]
  obtain ⟨z, hz⟩ : ∃ z, movesZ (danceM k n R) (ms.map (pickM n)) = z := ⟨_, rfl⟩
  change Does Tryz.prog 13 _ _ _
  refine Does.on 6 [0] _ _ (floor (k := k) (n := n) (R := R) (ms := ms) (z := z) (kindAll hk6 hn16 (by omega)) rfl (by omega) hz fun v hv hw => ?_)
  have hS : rightE 0 z.el = true ∧ ∀ e ∈ z.el, Ev64 e := by
    rw [← hz]
    exact story_right hk6 hn16 hR6 (kind_w0 hk6 hn16 hR6) _
  have hel : z.el.length ≤ 20000 := Nat.le_trans hw.el hw.k
  clear hz
  obtain ⟨hr, h64⟩ := hS
  change Does Tryz.prog 14 _ _ _
  refine Does.on 15 [6, 7, 8, 9, 10, 11, 12, 13, 14] _ _ (coreEvents (m := z) (v := v) (by omega) ?_)
  generalize z.el = p at *
  change Does Tryz.prog 15 _ _ _
  refine Does.on 16 [2, 5, 15] _ _ (storyPrint (all := p) (es := p) (n := p.length) (o := 0) rfl (fun i _ => by rw [Nat.zero_add]) (by omega) h64 (fun _ => ?_) fun h => absurd (hr.symm.trans h) (by decide))
  have hpl := printS_len p h64
  have hpp := parse_printS p [] hr h64
  change Does Tryz.prog 16 _ _ _
  refine Does.on 16 [2, 3, 4, 5] _ _ (storyParse (s := printS p) (by omega) (fun xs hx => ?_) fun hx => by rw [hpp] at hx; cases hx)
  obtain rfl : p = xs := Option.some.inj (hpp.symm.trans hx)
  change Does Tryz.prog 17 _ _ _
  refine Does.on 17 [15, 16] _ _ (equalEv (xs := p) (ys := p) (by omega) (fun _ => ?_) fun h => absurd rfl h)
  rfl

end Go.Mac
end
