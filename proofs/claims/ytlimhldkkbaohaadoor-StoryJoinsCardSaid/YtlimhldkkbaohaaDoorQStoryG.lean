/- story.Parse: whatever the text. -/
import Derived.Test.YtlimhldkkbaohaaDoorQStoryR
import Derived.Test.YtlimhldkkbaohaaDoorQStoryL
import Derived.Test.YtlimhldkkbaohaaDoorQDrawS
open Go Go.Proofs Go.Mac
set_option maxRecDepth 100000
namespace Go.Mac

attribute [local irreducible] drawnR

section
variable {K : AV → List Nat → List PO → Prop}

set_option maxHeartbeats 400000 in
theorem storyParse {s : List UInt8} (hs : s.length ≤ 1000000) (h1 : ∀ xs, parseS [] s = some xs → K (.tup [.c (.slc 4 0 xs.length none false), .c .niliface]) [] [powH, errS, errR, namesH, .rows false 4 (xs.map rowEv)])
    (h0 : parseS [] s = none → ∀ e i : Int, K (.tup [.c .nilslc, .c (.iface 117 (.ptr 4 0))]) [] [powH, errS, errR, namesH, .one [.f (.int .i64 e), .f (.int .i64 i)]]) :
    Does Tryd.prog 31 [st s] [powH, errS, errR, namesH] K := by
  refine Does.keep 4 rfl ?_
  refine does Tryd.func31 rfl (by decide) ?_
  refine SS.nil 4 4 (by decide) rfl ?_
  refine SS.loop (fun x : List UInt8 × List EvZ => x.2.length + x.1.length ≤ s.length ∧ rightE 0 x.2 = true ∧ parseS [] s = parseS x.2 x.1) (fun x => [(0, st x.1), (4, cv (.slc 4 0 x.2.length none false))]) (fun x => [powH, errS, errR, namesH, .rows false 4 (x.2.map rowEv)]) (fun x => x.1.length) [4, 5, 6, 7]
    (At.mk' [0, 4] (s, []) ⟨by simp, rfl, rfl⟩ ⟨rfl, rfl⟩ rfl rfl (by simp) (by simp) (by simp)) ?_
  rintro ⟨r, xs⟩ ⟨hx, hr0, hp⟩
  dsimp only at hx hr0 hp
  refine S_r ?_
  refine brc_intro (fun hne => ?_) (fun hne => ?_)
  · have hne : r ≠ [] := by simpa using hne
    change Does Tryd.prog 68 _ _ _
    refine Does.alone 5 (cutAll (s := r) (c := 10) (by omega) (fun l r' hc => ?_) fun hc => ?_)
    · have hcl := cut_len hc
      have hst := parseS_step (acc := xs) hc
      change Does Tryd.prog 74 _ _ _
      refine Does.on 5 [0, 1, 2, 3] _ _ (storyLine (s := l) (by omega) (fun e he => ?_) fun he e => ?_)
      · rw [he] at hst
        dsimp only at hst
        refine SS.drawR follows (by decide) ?_
        have hL : (if IntKind.i64.wrap ((xs.length : Int) - 1) > 0 then IntKind.i64.wrap ((xs.length : Int) - 1) else 0) = ((xs.length - 1 : Nat) : Int) := by
          rw [wrap_i64 _ (by omega) (by omega)]
          split <;> omega
        have hys : List.take (xs.length - (xs.length - 1)) (List.drop (0 + (xs.length - 1)) (xs.map rowEv)) ++ [rowEv e] = (xs.drop (xs.length - 1) ++ [e]).map rowEv := by
          rw [List.map_append, List.map_drop, Nat.zero_add, List.take_of_length_le (by simp)]
          rfl
        have hA1 : 0 + (xs.length - 1) + (xs.length - (xs.length - 1)) ≤ (xs.map rowEv).length := by rw [List.length_map]; omega
        have hA2 : (xs.length - (xs.length - 1) + 1) * 32 ≤ 140737488355328 := by omega
        have hA3 : xs.length - (xs.length - 1) + 1 ≤ 9223372036854775807 := by omega
        have hC : (0 : Int) ≤ ((xs.length - 1 : Nat) : Int) ∧ ((xs.length - 1 : Nat) : Int) ≤ (xs.length : Int) ∧ (xs.length : Int) ≤ (xs.length : Int) ∧ (xs.length : Int) ≤ ((xs.length : Nat) : Int) := by omega
        repeat' (first | refine draw_known rfl (fun _ => rfl) (fun _ => rfl) (fun _ => rfl) ?_ | fail)
        refine draw_eff2 rfl rfl ?_ ?_
        · refine eff_known (v := i64 ((xs.length - 1 : Nat) : Int)) (fun _ => rfl) (fun K' => congrArg (fun z => K' (fcv (.int .i64 z)) [] _) hL) (fun _ => rfl) ?_
          repeat' (first | refine And.intro rfl ?_ | refine And.intro (And.intro hC.1 (And.intro hC.2.1 (And.intro hC.2.2.1 (And.intro hC.2.2.2 rfl)))) ?_ | fail)
          change drawnR _ _ _ _ _ _ _ _ _ _
          refine draw_cond (v := cv (.slc 4 (0 + (xs.length - 1)) (xs.length - (xs.length - 1)) (some (xs.length - (xs.length - 1))) (false || Nat.blt 0 xs.length))) (C := (0 : Int) ≤ ((xs.length - 1 : Nat) : Int) ∧ ((xs.length - 1 : Nat) : Int) ≤ (xs.length : Int) ∧ (xs.length : Int) ≤ (xs.length : Int) ∧ (xs.length : Int) ≤ ((xs.length : Nat) : Int)) rfl (fun _ => rfl) (by intro _ c k; exact ⟨c.1, c.2.1, c.2.2.1, c.2.2.2, k⟩) (by intro _; rfl) hC ?_
          refine draw_eff1 rfl rfl ?_
          refine eff_known (fun _ => rfl) (fun _ => rfl) (fun _ => rfl) ?_
          repeat' (first | refine And.intro rfl ?_ | refine And.intro (And.intro hC.1 (And.intro hC.2.1 (And.intro hC.2.2.1 (And.intro hC.2.2.2 rfl)))) ?_ | fail)
          change drawnR _ _ _ _ _ _ _ _ _ _
          refine draw_eff1 rfl rfl ?_
          refine eff_run (fun _ => rfl) ?_
          refine And.intro (Nat.le_refl 1) (Or.inr (And.intro rfl (And.intro Nat.zero_lt_one (And.intro hA1 (And.intro hA2 (And.intro hA3 ?_))))))
          repeat' (first | refine And.intro rfl ?_ | refine And.intro (And.intro hC.1 (And.intro hC.2.1 (And.intro hC.2.2.1 (And.intro hC.2.2.2 rfl)))) ?_ | fail)
          change drawnR _ _ _ _ _ _ _ _ _ _
          refine draw_eff1 rfl rfl ?_
          refine eff_run (fun _ => rfl) ?_
          change Does Tryd.prog 29 _ _ _
          refine Does.on 8 [7] _ _ (storyRightR (n := xs.length - (xs.length - 1) + 1) (es := xs.drop (xs.length - 1) ++ [e]) hys (by simp) (by omega) ?_)
          rw [right_last hr0]
          cases hre : rightE 0 (xs ++ [e]) with
          | false =>
            repeat' (first | refine And.intro rfl ?_ | refine And.intro (And.intro hC.1 (And.intro hC.2.1 (And.intro hC.2.2.1 (And.intro hC.2.2.2 rfl)))) ?_ | fail)
            change drawnR _ _ _ _ _ _ _ _ _ _
            repeat' (first | refine draw_known rfl (fun _ => rfl) (fun _ => rfl) (fun _ => rfl) ?_ | fail)
            refine draw_end rfl rfl rfl ?_
            exact ⟨9, [0, 1, 2, 3, 8], [powH, errS, errR, namesH, .one [.f (.int .i64 3), .f (.int .i64 xs.length)]], .tup [.c .nilslc, .c (.iface 117 (.ptr 4 0))], rfl, rfl, by decide, by decide, rfl, rfl, rfl, rfl, rfl, h0 (by rw [hp, hst, if_neg (by simp [hre])]) _ _⟩
          | true =>
            repeat' (first | refine And.intro rfl ?_ | refine And.intro (And.intro hC.1 (And.intro hC.2.1 (And.intro hC.2.2.1 (And.intro hC.2.2.2 rfl)))) ?_ | fail)
            change drawnR _ _ _ _ _ _ _ _ _ _
            repeat' (first | refine draw_known rfl (fun _ => rfl) (fun _ => rfl) (fun _ => rfl) ?_ | fail)
            refine draw_end rfl rfl rfl ?_
            refine And.intro (by simp) (Or.inl (And.intro rfl (And.intro (by simp) (And.intro (by show (xs.length + 1) * 32 ≤ _; omega) (And.intro (by show xs.length + 1 ≤ _; omega) ?_)))))
            refine At.mk' [0, 4] (r', xs ++ [e]) ⟨⟨by simp; omega, hre, ?_⟩, by dsimp only; omega⟩ ⟨?_, rfl⟩ ?_ rfl (by simp) (by simp) (by decide)
            · dsimp only
              rw [hp, hst, if_pos hre]
            · simp only [List.length_append, List.length_singleton]
              rfl
            · simp only [List.map_append, List.map_cons, List.map_nil]
              rfl
        · refine eff_known (fun _ => rfl) (fun _ => rfl) (fun _ => rfl) ?_
          repeat' (first | refine And.intro rfl ?_ | refine And.intro (And.intro hC.1 (And.intro hC.2.1 (And.intro hC.2.2.1 (And.intro hC.2.2.2 rfl)))) ?_ | fail)
          change drawnR _ _ _ _ _ _ _ _ _ _
          refine draw_eff1 rfl rfl ?_
          refine eff_known (v := i64 ((xs.length - 1 : Nat) : Int)) (fun _ => rfl) (fun K' => congrArg (fun z => K' (fcv (.int .i64 z)) [] _) hL) (fun _ => rfl) ?_
          repeat' (first | refine And.intro rfl ?_ | refine And.intro (And.intro hC.1 (And.intro hC.2.1 (And.intro hC.2.2.1 (And.intro hC.2.2.2 rfl)))) ?_ | fail)
          change drawnR _ _ _ _ _ _ _ _ _ _
          refine draw_cond (v := cv (.slc 4 (0 + (xs.length - 1)) (xs.length - (xs.length - 1)) (some (xs.length - (xs.length - 1))) (false || Nat.blt 0 xs.length))) (C := (0 : Int) ≤ ((xs.length - 1 : Nat) : Int) ∧ ((xs.length - 1 : Nat) : Int) ≤ (xs.length : Int) ∧ (xs.length : Int) ≤ (xs.length : Int) ∧ (xs.length : Int) ≤ ((xs.length : Nat) : Int)) rfl (fun _ => rfl) (by intro _ c k; exact ⟨c.1, c.2.1, c.2.2.1, c.2.2.2, k⟩) (by intro _; rfl) hC ?_
          refine draw_eff1 rfl rfl ?_
          refine eff_run (fun _ => rfl) ?_
          refine And.intro (Nat.le_refl 1) (Or.inr (And.intro rfl (And.intro Nat.zero_lt_one (And.intro hA1 (And.intro hA2 (And.intro hA3 ?_))))))
          repeat' (first | refine And.intro rfl ?_ | refine And.intro (And.intro hC.1 (And.intro hC.2.1 (And.intro hC.2.2.1 (And.intro hC.2.2.2 rfl)))) ?_ | fail)
          change drawnR _ _ _ _ _ _ _ _ _ _
          refine draw_eff1 rfl rfl ?_
          refine eff_run (fun _ => rfl) ?_
          change Does Tryd.prog 29 _ _ _
          refine Does.on 8 [7] _ _ (storyRightR (n := xs.length - (xs.length - 1) + 1) (es := xs.drop (xs.length - 1) ++ [e]) hys (by simp) (by omega) ?_)
          rw [right_last hr0]
          cases hre : rightE 0 (xs ++ [e]) with
          | false =>
            repeat' (first | refine And.intro rfl ?_ | refine And.intro (And.intro hC.1 (And.intro hC.2.1 (And.intro hC.2.2.1 (And.intro hC.2.2.2 rfl)))) ?_ | fail)
            change drawnR _ _ _ _ _ _ _ _ _ _
            repeat' (first | refine draw_known rfl (fun _ => rfl) (fun _ => rfl) (fun _ => rfl) ?_ | fail)
            refine draw_end rfl rfl rfl ?_
            exact ⟨9, [0, 1, 2, 3, 8], [powH, errS, errR, namesH, .one [.f (.int .i64 3), .f (.int .i64 xs.length)]], .tup [.c .nilslc, .c (.iface 117 (.ptr 4 0))], rfl, rfl, by decide, by decide, rfl, rfl, rfl, rfl, rfl, h0 (by rw [hp, hst, if_neg (by simp [hre])]) _ _⟩
          | true =>
            repeat' (first | refine And.intro rfl ?_ | refine And.intro (And.intro hC.1 (And.intro hC.2.1 (And.intro hC.2.2.1 (And.intro hC.2.2.2 rfl)))) ?_ | fail)
            change drawnR _ _ _ _ _ _ _ _ _ _
            repeat' (first | refine draw_known rfl (fun _ => rfl) (fun _ => rfl) (fun _ => rfl) ?_ | fail)
            refine draw_end rfl rfl rfl ?_
            refine And.intro (by simp) (Or.inl (And.intro rfl (And.intro (by simp) (And.intro (by show (xs.length + 1) * 32 ≤ _; omega) (And.intro (by show xs.length + 1 ≤ _; omega) ?_)))))
            refine At.mk' [0, 4] (r', xs ++ [e]) ⟨⟨by simp; omega, hre, ?_⟩, by dsimp only; omega⟩ ⟨?_, rfl⟩ ?_ rfl (by simp) (by simp) (by decide)
            · dsimp only
              rw [hp, hst, if_pos hre]
            · simp only [List.length_append, List.length_singleton]
              rfl
            · simp only [List.map_append, List.map_cons, List.map_nil]
              rfl
      · rw [he] at hst
        dsimp only at hst
        refine SS.drawR follows (by decide) ?_
        repeat' (first | refine draw_known rfl (fun _ => rfl) (fun _ => rfl) (fun _ => rfl) ?_ | refine draw_skip rfl (fun _ => rfl) (fun _ => rfl) ?_ | refine draw_eff1 rfl rfl ?_ | refine draw_eff2 rfl rfl ?_ ?_ | refine eff_skip (fun _ => rfl) (fun _ => rfl) ?_ | refine draw_end rfl rfl rfl ?_ | refine And.intro rfl ?_ | fail)
        all_goals exact ⟨7, [0, 1, 2, 3, 6], [powH, errS, errR, namesH, .one [.f (.int .i64 3), .f (.int .i64 xs.length)]], .tup [.c .nilslc, .c (.iface 117 (.ptr 4 0))], rfl, rfl, by decide, by decide, rfl, rfl, rfl, rfl, rfl, h0 (by rw [hp, hst]) _ _⟩
    · have hst := parseS_cut (acc := xs) hne hc
      change Does Tryd.prog 74 _ _ _
      refine Does.on 5 [0, 1, 2, 3] _ _ (storyLine (s := r) (by omega) (fun e he => ?_) fun he e => ?_)
      · refine SS.drawR follows (by decide) ?_
        repeat' (first | refine draw_known rfl (fun _ => rfl) (fun _ => rfl) (fun _ => rfl) ?_ | refine draw_skip rfl (fun _ => rfl) (fun _ => rfl) ?_ | refine draw_eff1 rfl rfl ?_ | refine draw_eff2 rfl rfl ?_ ?_ | refine eff_skip (fun _ => rfl) (fun _ => rfl) ?_ | refine draw_end rfl rfl rfl ?_ | refine And.intro rfl ?_ | fail)
        all_goals exact ⟨7, [0, 1, 2, 3, 6], [powH, errS, errR, namesH, .one [.f (.int .i64 3), .f (.int .i64 xs.length)]], .tup [.c .nilslc, .c (.iface 117 (.ptr 4 0))], rfl, rfl, by decide, by decide, rfl, rfl, rfl, rfl, rfl, h0 (by rw [hp, hst]) _ _⟩
      · refine SS.drawR follows (by decide) ?_
        repeat' (first | refine draw_known rfl (fun _ => rfl) (fun _ => rfl) (fun _ => rfl) ?_ | refine draw_skip rfl (fun _ => rfl) (fun _ => rfl) ?_ | refine draw_eff1 rfl rfl ?_ | refine draw_eff2 rfl rfl ?_ ?_ | refine eff_skip (fun _ => rfl) (fun _ => rfl) ?_ | refine draw_end rfl rfl rfl ?_ | refine And.intro rfl ?_ | fail)
        all_goals exact ⟨7, [0, 1, 2, 3, 6], [powH, errS, errR, namesH, .one [.f (.int .i64 3), .f (.int .i64 xs.length)]], .tup [.c .nilslc, .c (.iface 117 (.ptr 4 0))], rfl, rfl, by decide, by decide, rfl, rfl, rfl, rfl, rfl, h0 (by rw [hp, hst]) _ _⟩
  · have hne : r = [] := by simpa using hne
    subst hne
    rw [parseS_nil] at hp
    exact ⟨5, [0, 1, 2, 3, 4], _, _, rfl, rfl, by decide, by decide, rfl, rfl, rfl, rfl, rfl, h1 xs hp⟩

end
end Go.Mac
