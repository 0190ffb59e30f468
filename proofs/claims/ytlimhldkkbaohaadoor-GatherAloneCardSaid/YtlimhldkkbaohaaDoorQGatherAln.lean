/- Who is alone is answered at once: GatherAlone. -/
import Derived.Test.YtlimhldkkbaohaaDoorQGuests
import Derived.Test.YtlimhldkkbaohaaDoorQBegins
import Derived.Test.YtlimhldkkbaohaaDoorQGathered
import Derived.Test.YtlimhldkkbaohaaDoorQAlL
open Go Go.Proofs Go.Mac
set_option maxRecDepth 100000
namespace Go.Mac

set_option maxHeartbeats 4000000 in
theorem gatherAlone (l : List Int) (_hw : ∀ x ∈ l, -9223372036854775808 ≤ x ∧ x ≤ 9223372036854775807) (hl : l.length ≤ 9223372036854775807) (a : Int) (_ha : -9223372036854775808 ≤ a ∧ a ≤ 9223372036854775807) (b : Int) (_hb : -9223372036854775808 ≤ b ∧ b ≤ 9223372036854775807) :
    Does Tryd.prog 9 [cv (.slc 0 0 l.length none false), i64 a, i64 b] [.rows true 1 (l.map rowZ), rtH] fun v _ _ => v = bl true := by
  refine does Tryd.func9 rfl (by decide) ?_
  change Does Tryd.prog 16 _ _ _
  refine Does.alone 2 (gathered ?_)
  change Does Tryd.prog 33 _ _ _
  refine Does.alone 2 (phased ?_)
  refine And.intro (by simp) ?_
  change Does Tryd.prog 17 _ _ _
  refine Does.on 3 [2] _ _ (Does.asRo (guests (l := [l]) (n := 1) (ro := true) rfl (by omega) (fun x hx => ?_) ?_))
  · obtain rfl := List.mem_singleton.1 hx
    omega
  refine And.intro rfl (And.intro rfl (And.intro rfl ?_))
  have hone : guestsZ [l] = [guestJ l 6] := rfl
  rw [hone]
  obtain ⟨g1, g2, g3, g4⟩ := guests_made [l]
  rw [hone] at g1 g2 g3 g4
  have hc6 : (guestJ l 6).length ≤ 6 := g2 _ (by simp)
  have hct : ∀ c ∈ guestJ l 6, c ∈ guestT ++ ownL := g3 _ (by simp)
  generalize guestJ l 6 = calls at hc6 hct
  clear g1 g2 g3 g4 hone
  have hpb := pickZ_lt b (n := 5) (by decide)
  have hph := begPh_in a
  change Does Tryd.prog 34 _ _ _
  refine Does.alone 4 (begins a b ?_)
  generalize begPh a = ph at hph ⊢
  generalize pickZ b 5 = pa at hpb ⊢
  obtain ⟨p, hp⟩ : ∃ p : Ph, p = ⟨false, ph, pa, pa⟩ := ⟨_, rfl⟩
  have hpr : p.right = true := by rw [hp]; exact pkRightB_iff.2 (by dsimp only; omega)
  have hpw : pkWordZ false ph pa pa = p.w := by rw [hp]; rfl
  have hpc : pkPhaseC false ph pa pa = p.c := by rw [hp]
  obtain ⟨f1, f2, f3⟩ := al_fin (l := calls) (by omega) hct hpr
  have hpb := (Ph.bits hpr).1
  have hpv := (Ph.bits hpr).2.1
  have hwb : 0 ≤ p.w ∧ p.w < 18446744073709551616 := by rw [hpv]; split <;> omega
  rw [hpw]
  clear hpw hph hpb hpv
  obtain ⟨z, hz⟩ : ∃ z, mz0 [gathP calls] [p.w] = z := ⟨_, rfl⟩
  rw [hz] at f1 f2 f3
  have hr : ∀ q ∈ [gathP calls], rightZ q 1 = true := fun q hq => by rw [List.mem_singleton.1 hq]; exact asked_right (by omega) hct
  change Does Tryd.prog 35 _ _ _
  refine Does.nilArg4 2 (by decide) ?_
  refine Does.on 7 [3, 5, 6] _ _ (made (ls := [calls]) (ps := [gathP calls]) (ws := [p.w]) (ms := []) (f := 36) (n := 1) (nc := 1) (k := 0) (ro := false) (ro2 := false) (ro3 := false) rfl rfl rfl rfl (by decide) (by decide) (by decide) hr (fun v hv => by obtain rfl := List.mem_singleton.1 hv; exact hwb) (hz := hz) (fun i l' q hl' hq K' hK' => ?_) fun v hv hw => ?_)
  · have hl'' := List.mem_singleton.1 (List.mem_of_getElem? hl')
    have hq' := List.mem_singleton.1 (List.mem_of_getElem? hq)
    subst hl'' hq'
    exact gatherCode' i i l' hl' (Nat.le_trans hc6 (by decide)) (fun c hc => asked_ok.1 c (hct c hc)) hK'
  subst hp
  have hfit : ∀ c ∈ calls, gFit c := fun c hc => asked_ok.1 c (hct c hc)
  clear hr hpc hct hz
  change Does Tryd.prog 37 _ _ _
  refine Does.on 16 [7, 8, 9, 10, 11, 12, 13, 14, 15] _ _ (fairFinish (m := z) (v := v) hw hv fun v1 _ hv1 hw1 => ?_)
  generalize finish z = z1 at hw1 f1 f2 f3
  change Does Tryd.prog 38 _ _ _
  refine Does.on 16 [7, 8, 9, 10, 11, 12, 13, 14, 15] _ _ (answers (m := z1) (v := v1) hw1 1 (by omega) ?_)
  have hrow : ((ansL 1 z1.el).map fun l => l.map rowZ)[0]? = some ((ansT 0 z1.el).map rowZ) := rfl
  have hrl : ((ansL 1 z1.el).map fun l => l.map rowZ).length = 1 := rfl
  rw [f1] at hrow
  generalize ((ansL 1 z1.el).map fun l => l.map rowZ) = rss at hrow hrl ⊢
  refine at2 (by decide) (by decide) ?_
  refine Exists.intro (((alone ⟨false, ph, pa, pa⟩ calls).1).map rowZ) (And.intro hrow ?_)
  refine at2 (by decide) (by decide) ?_
  refine Exists.intro (calls.map rowCallZ) (And.intro rfl ?_)
  rw [List.length_map, List.length_map]
  have hel : z1.el.length ≤ 20000 := Nat.le_trans hw1.el hw1.k
  generalize hA : (alone ⟨false, ph, pa, pa⟩ calls).1 = own at f1 hrow ⊢
  generalize hS : (alone ⟨false, ph, pa, pa⟩ calls).2 = stk at f2 f3
  have hol : own.length ≤ 20000 := by
    rw [← f1]
    exact Nat.le_trans (ansT_len 0 z1.el) hel
  generalize hn : calls.length = n at hc6 ⊢
  refine SS.loop (fun s : Nat × Ph => s.1 ≤ n ∧ s.2.right = true ∧ ∃ pre : List Int, pre.length = s.1 ∧ own = pre ++ (alone s.2 (calls.drop s.1)).1 ∧ stk = (alone s.2 (calls.drop s.1)).2)
    (fun s => [(7, cv (.slc 3 0 1 none false)), (8, cv (.ptr 4 0)), (11, cv (.ptr 7 0)), (12, cv (.islc 16 0 0 own.length none false)), (57, cv (.islc 3 0 0 n none false)), (58, i64 n), (59, i64 s.1)])
    (fun s => [.rows true 1 (l.map rowZ), rtH, .rows2m 1 (List.map (fun xs => List.map rowZ xs) [l]), callsH false [calls], .one [.f (.bool s.2.o), .f (.int .i64 s.2.ph), .f (.int .i64 s.2.pa), .f (.int .i64 s.2.wa)], .rows false 1 [rowU (Ph.w ⟨false, ph, pa, pa⟩)], .rows false 2 []] ++ machS 7 z1 v1 ++ [.rows2 false 1 rss]) (fun s => n - s.1) [4, 13, 14, 15]
    (At.mk' [7, 8, 11, 12, 57, 58, 59] (0, ⟨false, ph, pa, pa⟩) ⟨Nat.zero_le _, hpr, [], rfl, by rw [List.drop_zero, hA]; rfl, by rw [List.drop_zero, hS]⟩ ⟨rfl, rfl⟩ rfl rfl (by simp) (by simp) (by decide)) ?_
  rintro ⟨i, p⟩ ⟨hi, hp, pre, hpl, hown, hstk⟩
  dsimp only at hi hp hpl hown hstk
  refine S_r ?_
  refine brc_intro (fun hlt => ?_) (fun hlt => ?_)
  · have hlt2 : i < n := by
      have := of_decide_eq_true hlt
      have : (i : Int) < (n : Int) := this
      omega
    obtain ⟨c, hc⟩ : ∃ c, calls[i]? = some c := ⟨_, List.getElem?_eq_getElem (by omega)⟩
    have hdr : calls.drop i = c :: calls.drop (i + 1) := by
      rw [List.drop_eq_getElem_cons (by omega)]
      congr 1
      exact (List.getElem?_eq_some_iff.1 hc).2
    rw [hdr, alone] at hown hstk
    have hfc := hfit c (List.mem_of_getElem? hc)
    have h1 : ([calls].map fun l => l.map rowCallZ)[0]? = some (calls.map rowCallZ) := rfl
    have h2 : (calls.map rowCallZ)[0 + Int.toNat (i : Int)]? = some (rowCallZ c) := by rw [Nat.zero_add, Int.toNat_natCast, List.getElem?_map, hc]; rfl
    refine SS.inlR ?_
    refine And.intro (show 0 < 1 by omega) (at2 (a := (0 : Int) ≤ (i : Int)) (b := (i : Int) < (n : Int)) (by omega) (by omega) ?_)
    refine Exists.intro (calls.map rowCallZ) (Exists.intro (rowCallZ c) (And.intro h1 (And.intro h2 ?_)))
    have hab : ∃ q x, phDo p (if c.w = 9 then 7 else c.w) c.n = some (q, x) ∧ q.right = true ∧ -4 ≤ x ∧ x < 2147483648 := by
      by_cases h9 : c.w = 9
      · rw [if_pos h9, gfit_0 hfc (by omega) (by omega)]
        exact ph_some hp (by decide) (by decide)
      · rw [if_neg h9]
        exact ph_some hp hfc h9
    obtain ⟨q, x, hq, hqr, hx1, hx2⟩ := hab
    have hask : phAsk p c = if c.w = 9 ∧ 0 ≤ x then (q, awN q x) else (q, x) := by
      rw [phAsk, hq]; rfl
    have fin4 : ∀ {q' : Ph} {n' : Int}, phAsk p c = (q', n') → n' = -4 → own.length = i ∧ stk = true := fun {q' n'} e h4 => by
      rw [e, if_pos h4] at hown hstk
      exact ⟨by rw [hown, ← hpl]; simp, hstk⟩
    have fin5 : ∀ {q' : Ph} {n' : Int}, phAsk p c = (q', n') → n' ≠ -4 → own[i]? = some n' ∧ i < own.length ∧ ∃ pre : List Int, pre.length = i + 1 ∧ own = pre ++ (alone q' (calls.drop (i + 1))).1 ∧ stk = (alone q' (calls.drop (i + 1))).2 := fun {q' n'} e h4 => by
      rw [e, if_neg h4] at hown hstk
      have e1 : own[i]? = some n' := by
        rw [hown, ← hpl, List.getElem?_append_right (Nat.le_refl _), Nat.sub_self]; rfl
      exact ⟨e1, (List.getElem?_eq_some_iff.1 e1).1, pre ++ [n'], by simp [hpl], by rw [List.append_assoc]; exact hown, hstk⟩
    clear hown hstk hdr
    have hq9 : c.w = 9 → c.n = 0 := fun h => gfit_0 hfc (by omega) (by omega)
    refine brc_intro (fun h9 => ?_) (fun h9 => ?_)
    · have h9 : c.w = 9 := by simpa using h9
      rw [if_pos h9] at hq
      obtain ⟨w, m⟩ := c
      dsimp only at h9 hq hask
      subst h9
      simp only [true_and] at hask
      change Does Tryd.prog 39 _ _ _
      refine Does.alone 19 (phaserSome (p := p) (w := 7) (n := m) q x hq ?_)
      refine brc_intro (fun hx0 => ?_) (fun hx0 => ?_)
      · have hx0 : 0 ≤ x := of_decide_eq_true hx0
        rw [if_pos hx0] at hask
        change Does Tryd.prog 39 _ _ _
        refine Does.alone 20 (phaserSome (p := q) (w := 10) (n := x) q (awN q x) (ph_watch hqr ⟨hx0, hx2⟩) ?_)
        refine And.intro plainPhaseG ?_
        refine brc_intro (fun h => ?_) (fun _ => ?_)
        · exfalso
          simp at h
        refine brc_intro (fun h4 => ?_) (fun h4 => ?_)
        · have h4 : awN q x = -4 := by simpa using h4
          obtain ⟨o1, o2⟩ := fin4 hask h4
          change Does Tryd.prog 40 _ _ _
          refine Does.on 20 [7, 8, 9, 10, 11, 12, 13, 14, 15] _ _ (coreEnds (m := z1) (v := v1) hw1 ?_)
          rw [f3, o2]
          refine brc_intro (fun _ => rfl) (fun h => ?_)
          exfalso
          have h : ((own.length : Int) == (i : Int)) = false := h
          rw [o1] at h
          simp at h
        · have h4 : ¬ awN q x = -4 := by simpa using h4
          obtain ⟨e1, e2, e3⟩ := fin5 hask h4
          have r0 : (own.map rowZ)[0 + Int.toNat (i : Int)]? = some (rowZ (awN q x)) := by rw [Nat.zero_add, Int.toNat_natCast, List.getElem?_map, e1]; rfl
          refine brc_intro (fun h => ?_) (fun _ => ?_)
          · exfalso
            have h := of_decide_eq_true h
            have h : (i : Int) ≥ (own.length : Int) := h
            omega
          refine And.intro (by rw [hrl]; decide) (at2 (a := (0 : Int) ≤ (i : Int)) (b := (i : Int) < (own.length : Int)) (by omega) (by omega) ?_)
          refine Exists.intro (own.map rowZ) (Exists.intro (rowZ (awN q x)) (Exists.intro (.int .i64 (awN q x)) (And.intro hrow (And.intro r0 (And.intro rfl ?_)))))
          refine brc_intro (fun h => ?_) (fun _ => ?_)
          · exfalso
            simp at h
          refine At.mk' [7, 8, 11, 12, 57, 58, 59] (i + 1, q) ⟨⟨hlt2, hqr, e3⟩, by show n - (i + 1) < n - i; omega⟩ ⟨?_, rfl⟩ rfl rfl (by simp) (by simp) (by decide)
          rw [wrap_i64 _ (by omega) (by omega)]
          rfl
      · have hx0 : ¬ 0 ≤ x := of_decide_eq_false hx0
        rw [if_neg hx0] at hask
        refine brc_intro (fun h4 => ?_) (fun h4 => ?_)
        · have h4 : x = -4 := by simpa using h4
          obtain ⟨o1, o2⟩ := fin4 hask h4
          change Does Tryd.prog 40 _ _ _
          refine Does.on 20 [7, 8, 9, 10, 11, 12, 13, 14, 15] _ _ (coreEnds (m := z1) (v := v1) hw1 ?_)
          rw [f3, o2]
          refine brc_intro (fun _ => rfl) (fun h => ?_)
          exfalso
          have h : ((own.length : Int) == (i : Int)) = false := h
          rw [o1] at h
          simp at h
        · have h4 : ¬ x = -4 := by simpa using h4
          obtain ⟨e1, e2, e3⟩ := fin5 hask h4
          have r0 : (own.map rowZ)[0 + Int.toNat (i : Int)]? = some (rowZ (x)) := by rw [Nat.zero_add, Int.toNat_natCast, List.getElem?_map, e1]; rfl
          refine brc_intro (fun h => ?_) (fun _ => ?_)
          · exfalso
            have h := of_decide_eq_true h
            have h : (i : Int) ≥ (own.length : Int) := h
            omega
          refine And.intro (by rw [hrl]; decide) (at2 (a := (0 : Int) ≤ (i : Int)) (b := (i : Int) < (own.length : Int)) (by omega) (by omega) ?_)
          refine Exists.intro (own.map rowZ) (Exists.intro (rowZ (x)) (Exists.intro (.int .i64 (x)) (And.intro hrow (And.intro r0 (And.intro rfl ?_)))))
          refine brc_intro (fun h => ?_) (fun _ => ?_)
          · exfalso
            simp at h
          refine At.mk' [7, 8, 11, 12, 57, 58, 59] (i + 1, q) ⟨⟨hlt2, hqr, e3⟩, by show n - (i + 1) < n - i; omega⟩ ⟨?_, rfl⟩ rfl rfl (by simp) (by simp) (by decide)
          rw [wrap_i64 _ (by omega) (by omega)]
          rfl
    · have h9 : ¬ c.w = 9 := by simpa using h9
      rw [if_neg h9] at hq
      rw [if_neg (fun h => h9 h.1)] at hask
      change Does Tryd.prog 39 _ _ _
      refine Does.alone 19 (phaserSome (p := p) (w := c.w) (n := c.n) q x hq ?_)
      refine brc_intro (fun h => ?_) (fun _ => ?_)
      · exact absurd (by simpa using h) h9
      refine brc_intro (fun h4 => ?_) (fun h4 => ?_)
      · have h4 : x = -4 := by simpa using h4
        obtain ⟨o1, o2⟩ := fin4 hask h4
        change Does Tryd.prog 40 _ _ _
        refine Does.on 20 [7, 8, 9, 10, 11, 12, 13, 14, 15] _ _ (coreEnds (m := z1) (v := v1) hw1 ?_)
        rw [f3, o2]
        refine brc_intro (fun _ => rfl) (fun h => ?_)
        exfalso
        have h : ((own.length : Int) == (i : Int)) = false := h
        rw [o1] at h
        simp at h
      · have h4 : ¬ x = -4 := by simpa using h4
        obtain ⟨e1, e2, e3⟩ := fin5 hask h4
        have r0 : (own.map rowZ)[0 + Int.toNat (i : Int)]? = some (rowZ (x)) := by rw [Nat.zero_add, Int.toNat_natCast, List.getElem?_map, e1]; rfl
        refine brc_intro (fun h => ?_) (fun _ => ?_)
        · exfalso
          have h := of_decide_eq_true h
          have h : (i : Int) ≥ (own.length : Int) := h
          omega
        refine And.intro (by rw [hrl]; decide) (at2 (a := (0 : Int) ≤ (i : Int)) (b := (i : Int) < (own.length : Int)) (by omega) (by omega) ?_)
        refine Exists.intro (own.map rowZ) (Exists.intro (rowZ (x)) (Exists.intro (.int .i64 (x)) (And.intro hrow (And.intro r0 (And.intro rfl ?_)))))
        refine brc_intro (fun h => ?_) (fun _ => ?_)
        · exfalso
          simp at h
        refine At.mk' [7, 8, 11, 12, 57, 58, 59] (i + 1, q) ⟨⟨hlt2, hqr, e3⟩, by show n - (i + 1) < n - i; omega⟩ ⟨?_, rfl⟩ rfl rfl (by simp) (by simp) (by decide)
        rw [wrap_i64 _ (by omega) (by omega)]
        rfl
  · have hlt : ¬ (i : Int) < (n : Int) := of_decide_eq_false hlt
    obtain rfl : i = n := by omega
    rw [List.drop_of_length_le (by omega), alone] at hown hstk
    have hlen : own.length = i := by rw [hown, List.append_nil]; exact hpl
    change Does Tryd.prog 40 _ _ _
    refine Does.on 17 [7, 8, 9, 10, 11, 12, 13, 14, 15] _ _ (coreEnds (m := z1) (v := v1) hw1 ?_)
    rw [f2, hstk]
    refine at2 (by decide) (by decide) ?_
    refine Exists.intro (calls.map rowCallZ) (And.intro rfl ?_)
    show bl ((own.length : Int) == ((calls.map rowCallZ).length : Int)) = bl true
    rw [List.length_map, hlen, hn]
    simp

end Go.Mac
