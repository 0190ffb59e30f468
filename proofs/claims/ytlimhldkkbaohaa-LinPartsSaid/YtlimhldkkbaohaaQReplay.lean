/- lin.Replay: what comes of calls at points. -/
import Derived.Test.YtlimhldkkbaohaaQRepl
import Derived.Test.YtlimhldkkbaohaaQDrawS
open Go Go.Proofs Go.Mac
set_option maxRecDepth 100000
namespace Go.Mac
attribute [local irreducible] drawnR

section
variable {K : AV → List Nat → List PO → Prop}

set_option maxHeartbeats 4000000 in
theorem replay {calls : List (List CallZ)} {pts all : List PtZ} {n k o : Nat} {ro1 ro2 nn1 nn2 : Bool} (p0 : Ph) (hn : calls.length = n) (hn16 : n ≤ 16) (hk : pts.length = k) (hk60 : k ≤ 60) (ho : ∀ i, i < k → all[o + i]? = pts[i]?) (hc : ∀ l ∈ calls, l.length ≤ 9223372036854775807)
    (h0 : rp calls pts p0 (fun _ => 0) = none → ∀ (e i : Int), K (.tup [phaseC false 0 0 0, .c .nilslc, .c (.iface 48 (.ptr 2 0))]) [] [.rows2 ro1 2 (calls.map fun l => l.map rowCallZ), .rows ro2 4 (all.map rowPt), .one [.f (.int .i64 e), .f (.int .i64 i)]])
    (h1 : ∀ q outs, rp calls pts p0 (fun _ => 0) = some (q, outs) → K (.tup [q.c, .c (.slc 2 0 outs.length none false), .c .niliface]) [] [.rows2 ro1 2 (calls.map fun l => l.map rowCallZ), .rows ro2 4 (all.map rowPt), .rows false 1 (outs.map rowZ)]) :
    Does Try.prog 8 [.p p0.c, cv (.slc 0 0 n none nn1), cv (.slc 1 o k none nn2)] [.rows2 ro1 2 (calls.map fun l => l.map rowCallZ), .rows ro2 4 (all.map rowPt)] K := by
  refine Does.keep 2 rfl ?_
  refine does Try.func8 rfl (by decide) ?_
  refine SS.nil 10 1 (by decide) rfl ?_
  refine SS.loop (fun s : Nat × Ph × List Int × MapZ × Nat => s.1 ≤ k ∧ s.2.2.1.length = s.1 ∧ rp calls pts p0 (fun _ => 0) = (rp calls (pts.drop s.1) s.2.1 (mpGet s.2.2.2.1)).map fun r => (r.1, s.2.2.1 ++ r.2))
    (fun s => [(1, cv (.slc 0 0 n none nn1)), (3, cv (.ptr 2 0)), (6, cv (.ptr 3 0)), (9, cv (.map 4)), (10, cv (.slc 5 0 s.2.2.1.length none false)), (19, cv (.slc 1 o k none nn2)), (20, i64 k), (21, i64 s.1)])
    (fun s => [.rows2 ro1 2 (calls.map fun l => l.map rowCallZ), .rows ro2 4 (all.map rowPt), .one [.f (.bool s.2.1.o), .f (.int .i64 s.2.1.ph), .f (.int .i64 s.2.1.pa), .f (.int .i64 s.2.1.wa)], .one [.f (.bool false), .f (.int .i64 0), .f (.int .i64 0), .f (.int .i64 0)], .mp 2 false s.2.2.2.1 s.2.2.2.2, .rows false 1 (s.2.2.1.map rowZ)]) (fun s => k - s.1) [5]
    (At.mk' [1, 3, 6, 9, 10, 19, 20, 21] (0, p0, [], [], 0) ⟨Nat.zero_le _, rfl, by rw [List.drop_zero]; show _ = (rp calls pts p0 (fun _ => 0)).map _; cases rp calls pts p0 (fun _ => 0) <;> rfl⟩ ⟨rfl, rfl⟩ rfl rfl (by simp) (by simp) (by simp)) ?_
  rintro ⟨i, p, outs, es, clk⟩ ⟨hi, hol, hrun⟩
  dsimp only at hi hol hrun
  refine S_r ?_
  refine brc_intro (fun hlt => ?_) (fun hlt => ?_)
  · have hlt2 : i < k := by
      have := of_decide_eq_true hlt
      have : (i : Int) < (k : Int) := this
      omega
    obtain ⟨x, hx⟩ : ∃ x, pts[i]? = some x := ⟨_, List.getElem?_eq_getElem (by omega)⟩
    have hdr : pts.drop i = x :: pts.drop (i + 1) := by
      rw [List.drop_eq_getElem_cons (by omega)]
      congr 1
      exact (List.getElem?_eq_some_iff.1 hx).2
    rw [hdr, rp] at hrun
    have hxa : (all.map rowPt)[o + Int.toNat (i : Int)]? = some (rowPt x) := by rw [Int.toNat_natCast, List.getElem?_map, ho i hlt2, hx]; rfl
    refine SS.inlR ?_
    refine at2 (a := (0 : Int) ≤ (i : Int)) (b := (i : Int) < (k : Int)) (by omega) (by omega) (rdA (rowPt x) hxa ?_)
    refine SS.drawR follows (by decide) ?_
    have hnone : rpCall calls x = none → rp calls pts p0 (fun _ => 0) = none := fun h => by rw [hrun, rpOne, h]; rfl
    by_cases hA : x.t < 0
    · have dA : decide (x.t < 0) = true := decide_eq_true hA
      repeat' (first | refine draw_known (v := bl true) rfl (fun _ => rfl) (fun K' => congrArg (fun z => K' (bl z) [] _) dA) (fun _ => rfl) ?_ | refine draw_known rfl (fun _ => rfl) (fun _ => rfl) (fun _ => rfl) ?_ | refine draw_skip rfl (fun _ => rfl) (fun _ => rfl) ?_ | refine draw_end rfl rfl rfl ?_ | fail)
      exact ⟨8, [0, 1, 7], _, _, rfl, rfl, by decide, by decide, rfl, rfl, rfl, rfl, rfl, h0 (hnone (if_neg (by omega))) 2 i⟩
    have dA : decide (x.t < 0) = false := decide_eq_false hA
    by_cases hB : x.t ≥ (n : Int)
    · have dB : decide (x.t ≥ (n : Int)) = true := decide_eq_true hB
      repeat' (first | refine draw_known (v := bl false) rfl (fun _ => rfl) (fun K' => congrArg (fun z => K' (bl z) [] _) dA) (fun _ => rfl) ?_ | refine draw_known (v := bl true) rfl (fun _ => rfl) (fun K' => congrArg (fun z => K' (bl z) [] _) dB) (fun _ => rfl) ?_ | refine draw_known rfl (fun _ => rfl) (fun _ => rfl) (fun _ => rfl) ?_ | refine draw_skip rfl (fun _ => rfl) (fun _ => rfl) ?_ | refine draw_end rfl rfl rfl ?_ | fail)
      exact ⟨8, [0, 1, 7], _, _, rfl, rfl, by decide, by decide, rfl, rfl, rfl, rfl, rfl, h0 (hnone (by
        rw [rpCall, List.getElem?_eq_none_iff.2 (show calls.length ≤ x.t.toNat by omega)]
        split <;> rfl)) 2 i⟩
    have dB : decide (x.t ≥ (n : Int)) = false := decide_eq_false hB
    by_cases hC : x.k < 0
    · have dC : decide (x.k < 0) = true := decide_eq_true hC
      repeat' (first | refine draw_known (v := bl false) rfl (fun _ => rfl) (fun K' => congrArg (fun z => K' (bl z) [] _) dA) (fun _ => rfl) ?_ | refine draw_known (v := bl false) rfl (fun _ => rfl) (fun K' => congrArg (fun z => K' (bl z) [] _) dB) (fun _ => rfl) ?_ | refine draw_known (v := bl true) rfl (fun _ => rfl) (fun K' => congrArg (fun z => K' (bl z) [] _) dC) (fun _ => rfl) ?_ | refine draw_known rfl (fun _ => rfl) (fun _ => rfl) (fun _ => rfl) ?_ | refine draw_skip rfl (fun _ => rfl) (fun _ => rfl) ?_ | refine draw_end rfl rfl rfl ?_ | fail)
      exact ⟨8, [0, 1, 7], _, _, rfl, rfl, by decide, by decide, rfl, rfl, rfl, rfl, rfl, h0 (hnone (if_neg (by omega))) 2 i⟩
    have dC : decide (x.k < 0) = false := decide_eq_false hC
    obtain ⟨lt, hlt'⟩ : ∃ lt, calls[x.t.toNat]? = some lt := ⟨_, List.getElem?_eq_getElem (by omega)⟩
    have hix : (0 : Int) ≤ x.t ∧ x.t < (n : Int) := by omega
    have hcm : (calls.map fun l => l.map rowCallZ)[0 + Int.toNat x.t]? = some (lt.map rowCallZ) := by rw [Nat.zero_add, List.getElem?_map, hlt']; rfl
    have hlm : (lt.map rowCallZ).length = lt.length := List.length_map ..
    by_cases hD : x.k ≥ ((lt.map rowCallZ).length : Int)
    · have dD : decide (x.k ≥ ((lt.map rowCallZ).length : Int)) = true := decide_eq_true hD
      repeat' (first | refine draw_known (v := bl false) rfl (fun _ => rfl) (fun K' => congrArg (fun z => K' (bl z) [] _) dA) (fun _ => rfl) ?_ | refine draw_known (v := bl false) rfl (fun _ => rfl) (fun K' => congrArg (fun z => K' (bl z) [] _) dB) (fun _ => rfl) ?_ | refine draw_known (v := bl false) rfl (fun _ => rfl) (fun K' => congrArg (fun z => K' (bl z) [] _) dC) (fun _ => rfl) ?_ | refine draw_known (v := bl true) rfl (fun _ => rfl) (fun K' => congrArg (fun z => K' (bl z) [] _) dD) (fun _ => rfl) ?_ | refine draw_cond (v := cv (.rptr 0 (0 + Int.toNat x.t) 0)) (C := (0 : Int) ≤ x.t ∧ x.t < (n : Int)) rfl (fun _ => rfl) (by intro _ c k; exact ⟨c.1, c.2, k⟩) (by intro _; rfl) hix ?_ | refine draw_cond (v := cv (.islc 0 (0 + Int.toNat x.t) 0 (lt.map rowCallZ).length none false)) (C := (calls.map fun l => l.map rowCallZ)[0 + Int.toNat x.t]? = some (lt.map rowCallZ)) rfl (fun _ => rfl) (by intro _ c k; exact ⟨lt.map rowCallZ, c, k⟩) (by intro _; rfl) hcm ?_ | refine draw_known rfl (fun _ => rfl) (fun _ => rfl) (fun _ => rfl) ?_ | refine draw_skip rfl (fun _ => rfl) (fun _ => rfl) ?_ | refine draw_end rfl rfl rfl ?_ | fail)
      exact ⟨8, [0, 1, 7], _, _, rfl, rfl, by decide, by decide, rfl, rfl, rfl, rfl, rfl, h0 (hnone (by
        rw [rpCall, hlt', Option.bind_some, List.getElem?_eq_none_iff.2 (show lt.length ≤ x.k.toNat by omega)]
        split <;> rfl)) 2 i⟩
    have dD : decide (x.k ≥ ((lt.map rowCallZ).length : Int)) = false := decide_eq_false hD
    obtain ⟨c, hck⟩ : ∃ c, lt[x.k.toNat]? = some c := ⟨_, List.getElem?_eq_getElem (by omega)⟩
    have hcall : rpCall calls x = some c := by
      rw [rpCall, if_pos (by omega), hlt', Option.bind_some, hck]
    have hkm : (lt.map rowCallZ)[0 + Int.toNat x.k]? = some (rowCallZ c) := by rw [Nat.zero_add, List.getElem?_map, hck]; rfl
    repeat' (first | refine draw_known (v := bl false) rfl (fun _ => rfl) (fun K' => congrArg (fun z => K' (bl z) [] _) dA) (fun _ => rfl) ?_ | refine draw_known (v := bl false) rfl (fun _ => rfl) (fun K' => congrArg (fun z => K' (bl z) [] _) dB) (fun _ => rfl) ?_ | refine draw_known (v := bl false) rfl (fun _ => rfl) (fun K' => congrArg (fun z => K' (bl z) [] _) dC) (fun _ => rfl) ?_ | refine draw_known (v := bl false) rfl (fun _ => rfl) (fun K' => congrArg (fun z => K' (bl z) [] _) dD) (fun _ => rfl) ?_ | refine draw_cond (v := cv (.rptr 0 (0 + Int.toNat x.t) 0)) (C := (0 : Int) ≤ x.t ∧ x.t < (n : Int)) rfl (fun _ => rfl) (by intro _ c k; exact ⟨c.1, c.2, k⟩) (by intro _; rfl) hix ?_ | refine draw_cond (v := cv (.islc 0 (0 + Int.toNat x.t) 0 (lt.map rowCallZ).length none false)) (C := (calls.map fun l => l.map rowCallZ)[0 + Int.toNat x.t]? = some (lt.map rowCallZ)) rfl (fun _ => rfl) (by intro _ c k; exact ⟨lt.map rowCallZ, c, k⟩) (by intro _; rfl) hcm ?_ | refine draw_known rfl (fun _ => rfl) (fun _ => rfl) (fun _ => rfl) ?_ | refine draw_skip rfl (fun _ => rfl) (fun _ => rfl) ?_ | refine draw_end rfl rfl rfl ?_ | fail)
    refine SS.drawR follows (by decide) ?_
    have hik : 0 + Int.toNat x.t < (calls.map fun l => l.map rowCallZ).length ∧ (0 : Int) ≤ x.k ∧ x.k < ((lt.map rowCallZ).length : Int) := ⟨by rw [List.length_map]; omega, by omega, by omega⟩
    repeat' (first | refine draw_cond (v := cv (.iptr 0 (0 + Int.toNat x.t) (0 + Int.toNat x.k) 0)) (C := 0 + Int.toNat x.t < (calls.map fun l => l.map rowCallZ).length ∧ (0 : Int) ≤ x.k ∧ x.k < ((lt.map rowCallZ).length : Int)) rfl (fun _ => rfl) (by intro _ c k; exact ⟨c.1, c.2.1, c.2.2, k⟩) (by intro _; rfl) hik ?_ | refine draw_cond (v := .p (.agg [.f (.int .i64 c.w), .f (.int .i64 c.n)])) (C := (calls.map fun l => l.map rowCallZ)[0 + Int.toNat x.t]? = some (lt.map rowCallZ) ∧ (lt.map rowCallZ)[0 + Int.toNat x.k]? = some (rowCallZ c)) rfl (fun _ => rfl) (by intro _ c' k; exact ⟨lt.map rowCallZ, rowCallZ c, c'.1, c'.2, k⟩) (by intro _; rfl) ⟨hcm, hkm⟩ ?_ | refine draw_cond (v := cv (.rptr 0 (0 + Int.toNat x.t) 0)) (C := (0 : Int) ≤ x.t ∧ x.t < (n : Int)) rfl (fun _ => rfl) (by intro _ c k; exact ⟨c.1, c.2, k⟩) (by intro _; rfl) hix ?_ | refine draw_cond (v := cv (.islc 0 (0 + Int.toNat x.t) 0 (lt.map rowCallZ).length none false)) (C := (calls.map fun l => l.map rowCallZ)[0 + Int.toNat x.t]? = some (lt.map rowCallZ)) rfl (fun _ => rfl) (by intro _ c k; exact ⟨lt.map rowCallZ, c, k⟩) (by intro _; rfl) hcm ?_ | refine draw_known rfl (fun _ => rfl) (fun _ => rfl) (fun _ => rfl) ?_ | refine draw_skip rfl (fun _ => rfl) (fun _ => rfl) ?_ | refine draw_end rfl rfl rfl ?_ | fail)
    refine draw_eff1 rfl rfl ?_
    refine eff_known (fun _ => rfl) (fun _ => rfl) (fun _ => rfl) ?_
    repeat' (first | refine And.intro rfl ?_ | refine And.intro (And.intro hix.1 (And.intro hix.2 rfl)) ?_ | refine And.intro (And.intro hik.1 (And.intro hik.2.1 (And.intro hik.2.2 rfl))) ?_ | refine And.intro (Exists.intro _ (And.intro hcm rfl)) ?_ | refine And.intro (Exists.intro _ (Exists.intro _ (And.intro hcm (And.intro hkm rfl)))) ?_ | fail)
    change drawnR _ _ _ _ _ _ _ _ _ _
    refine draw_eff1 rfl rfl ?_
    refine eff_known (fun _ => rfl) (fun _ => rfl) (fun _ => rfl) ?_
    repeat' (first | refine And.intro rfl ?_ | refine And.intro (And.intro hix.1 (And.intro hix.2 rfl)) ?_ | refine And.intro (And.intro hik.1 (And.intro hik.2.1 (And.intro hik.2.2 rfl))) ?_ | refine And.intro (Exists.intro _ (And.intro hcm rfl)) ?_ | refine And.intro (Exists.intro _ (Exists.intro _ (And.intro hcm (And.intro hkm rfl)))) ?_ | fail)
    change drawnR _ _ _ _ _ _ _ _ _ _
    refine draw_end rfl rfl rfl ?_
    have hone : rpOne calls p x (mpGet es [x.t, x.k]) = phDo p (rpAsk c x.l (mpGet es [x.t, x.k])).w (rpAsk c x.l (mpGet es [x.t, x.k])).n := by rw [rpOne, hcall]; rfl
    refine brc_intro (fun h9 => ?_) (fun h9 => ?_)
    · have h9 : c.w = 9 := by simpa using h9
      rw [rpAsk, if_pos h9] at hone
      refine brc_intro (fun hl => ?_) (fun hl => ?_)
      · have hl : x.l = true := hl
        rw [if_pos hl] at hone
        change Does Try.prog 11 _ _ _
        refine Does.alone 9 (phaserDo p 10 (if mpGet es [x.t, x.k] > 0 then mpGet es [x.t, x.k] else 0) (fun hd => ?_) fun q m hd => ?_)
        · exact ⟨11, [0, 1, 10], _, _, rfl, rfl, by decide, by decide, rfl, rfl, rfl, rfl, rfl, h0 (by rw [hrun, hone, hd]; rfl) 1 i⟩
        · rw [hone, hd] at hrun
          refine SS.drawR follows (by decide) ?_
          repeat' (first | refine draw_known rfl (fun _ => rfl) (fun _ => rfl) (fun _ => rfl) ?_ | fail)
          refine draw_eff1 rfl rfl ?_
          refine eff_known (fun _ => rfl) (fun _ => rfl) (fun _ => rfl) ?_
          repeat' (first | refine And.intro rfl ?_ | fail)
          change drawnR _ _ _ _ _ _ _ _ _ _
          refine draw_eff1 rfl rfl ?_
          refine eff_known (fun _ => rfl) (fun _ => rfl) (fun _ => rfl) ?_
          repeat' (first | refine And.intro rfl ?_ | fail)
          change drawnR _ _ _ _ _ _ _ _ _ _
          refine draw_end rfl rfl rfl ?_
          refine And.intro (by simp) (Or.inl (And.intro rfl (And.intro (by simp) (And.intro (by show (outs.length + 1) * 8 ≤ _; omega) (And.intro (by show outs.length + 1 ≤ _; omega) ?_)))))
          refine At.mk' [1, 3, 6, 9, 10, 19, 20, 21] (i + 1, q, outs ++ [m], mpPut es [x.t, x.k] m clk, mpClk es [x.t, x.k] clk) ⟨⟨hlt2, by simp [hol], ?_⟩, by show k - (i + 1) < k - i; omega⟩ ⟨?_, rfl⟩ ?_ rfl (by simp) (by simp) (by decide)
          · dsimp only
            rw [hrun, show mpGet (mpPut es [x.t, x.k] m clk) = rpPut (mpGet es) [x.t, x.k] m from funext fun k' => mpGet_put ..]
            simp only [Option.bind_some]
            cases rp calls (pts.drop (i + 1)) q (rpPut (mpGet es) [x.t, x.k] m) with
            | none => rfl
            | some r => simp
          · rw [wrap_i64 (i + 1) (by omega) (by omega)]
            simp only [List.length_append, List.length_singleton]
            rfl
          · simp only [List.map_append, List.map_cons, List.map_nil]
            rfl
      · have hl : ¬ x.l = true := by
          have hl : x.l = false := hl
          rw [hl]; decide
        rw [if_neg hl] at hone
        change Does Try.prog 11 _ _ _
        refine Does.alone 9 (phaserDo p 7 c.n (fun hd => ?_) fun q m hd => ?_)
        · exact ⟨11, [0, 1, 10], _, _, rfl, rfl, by decide, by decide, rfl, rfl, rfl, rfl, rfl, h0 (by rw [hrun, hone, hd]; rfl) 1 i⟩
        · rw [hone, hd] at hrun
          refine SS.drawR follows (by decide) ?_
          repeat' (first | refine draw_known rfl (fun _ => rfl) (fun _ => rfl) (fun _ => rfl) ?_ | fail)
          refine draw_eff1 rfl rfl ?_
          refine eff_known (fun _ => rfl) (fun _ => rfl) (fun _ => rfl) ?_
          repeat' (first | refine And.intro rfl ?_ | fail)
          change drawnR _ _ _ _ _ _ _ _ _ _
          refine draw_eff1 rfl rfl ?_
          refine eff_known (fun _ => rfl) (fun _ => rfl) (fun _ => rfl) ?_
          repeat' (first | refine And.intro rfl ?_ | fail)
          change drawnR _ _ _ _ _ _ _ _ _ _
          refine draw_end rfl rfl rfl ?_
          refine And.intro (by simp) (Or.inl (And.intro rfl (And.intro (by simp) (And.intro (by show (outs.length + 1) * 8 ≤ _; omega) (And.intro (by show outs.length + 1 ≤ _; omega) ?_)))))
          refine At.mk' [1, 3, 6, 9, 10, 19, 20, 21] (i + 1, q, outs ++ [m], mpPut es [x.t, x.k] m clk, mpClk es [x.t, x.k] clk) ⟨⟨hlt2, by simp [hol], ?_⟩, by show k - (i + 1) < k - i; omega⟩ ⟨?_, rfl⟩ ?_ rfl (by simp) (by simp) (by decide)
          · dsimp only
            rw [hrun, show mpGet (mpPut es [x.t, x.k] m clk) = rpPut (mpGet es) [x.t, x.k] m from funext fun k' => mpGet_put ..]
            simp only [Option.bind_some]
            cases rp calls (pts.drop (i + 1)) q (rpPut (mpGet es) [x.t, x.k] m) with
            | none => rfl
            | some r => simp
          · rw [wrap_i64 (i + 1) (by omega) (by omega)]
            simp only [List.length_append, List.length_singleton]
            rfl
          · simp only [List.map_append, List.map_cons, List.map_nil]
            rfl
    · have h9 : ¬ c.w = 9 := by simpa using h9
      rw [rpAsk, if_neg h9] at hone
      change Does Try.prog 11 _ _ _
      refine Does.alone 9 (phaserDo p c.w c.n (fun hd => ?_) fun q m hd => ?_)
      · exact ⟨11, [0, 1, 10], _, _, rfl, rfl, by decide, by decide, rfl, rfl, rfl, rfl, rfl, h0 (by rw [hrun, hone, hd]; rfl) 1 i⟩
      · rw [hone, hd] at hrun
        refine SS.drawR follows (by decide) ?_
        repeat' (first | refine draw_known rfl (fun _ => rfl) (fun _ => rfl) (fun _ => rfl) ?_ | fail)
        refine draw_eff1 rfl rfl ?_
        refine eff_known (fun _ => rfl) (fun _ => rfl) (fun _ => rfl) ?_
        repeat' (first | refine And.intro rfl ?_ | fail)
        change drawnR _ _ _ _ _ _ _ _ _ _
        refine draw_eff1 rfl rfl ?_
        refine eff_known (fun _ => rfl) (fun _ => rfl) (fun _ => rfl) ?_
        repeat' (first | refine And.intro rfl ?_ | fail)
        change drawnR _ _ _ _ _ _ _ _ _ _
        refine draw_end rfl rfl rfl ?_
        refine And.intro (by simp) (Or.inl (And.intro rfl (And.intro (by simp) (And.intro (by show (outs.length + 1) * 8 ≤ _; omega) (And.intro (by show outs.length + 1 ≤ _; omega) ?_)))))
        refine At.mk' [1, 3, 6, 9, 10, 19, 20, 21] (i + 1, q, outs ++ [m], mpPut es [x.t, x.k] m clk, mpClk es [x.t, x.k] clk) ⟨⟨hlt2, by simp [hol], ?_⟩, by show k - (i + 1) < k - i; omega⟩ ⟨?_, rfl⟩ ?_ rfl (by simp) (by simp) (by decide)
        · dsimp only
          rw [hrun, show mpGet (mpPut es [x.t, x.k] m clk) = rpPut (mpGet es) [x.t, x.k] m from funext fun k' => mpGet_put ..]
          simp only [Option.bind_some]
          cases rp calls (pts.drop (i + 1)) q (rpPut (mpGet es) [x.t, x.k] m) with
          | none => rfl
          | some r => simp
        · rw [wrap_i64 (i + 1) (by omega) (by omega)]
          simp only [List.length_append, List.length_singleton]
          rfl
        · simp only [List.map_append, List.map_cons, List.map_nil]
          rfl
  · have hlt : ¬ (i : Int) < (k : Int) := of_decide_eq_false hlt
    obtain rfl : i = k := by omega
    rw [List.drop_of_length_le (by omega), rp] at hrun
    refine ⟨6, [0, 1, 5], _, _, rfl, rfl, by decide, by decide, rfl, rfl, rfl, rfl, rfl, h1 p outs (by rw [hrun]; simp)⟩

end
end Go.Mac
