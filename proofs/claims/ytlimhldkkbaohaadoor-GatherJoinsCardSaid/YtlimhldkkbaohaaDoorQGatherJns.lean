/- One call behind the other: GatherJoins. -/
import Derived.Test.YtlimhldkkbaohaaDoorQGuests
import Derived.Test.YtlimhldkkbaohaaDoorQGathered
import Derived.Test.YtlimhldkkbaohaaDoorQGcM
import Derived.Test.YtlimhldkkbaohaaDoorQEqIns
open Go Go.Proofs Go.Mac
set_option maxRecDepth 100000
namespace Go.Mac

/-- What is not nil may be nil. -/
theorem Does.loose {P : Program} {f : FuncId} {args : List AV} {H : List PO} {K : AV → List Nat → List PO → Prop} {r o n : Nat} {c : Option Nat} (h : Does P f (cv (.slc r o n c false) :: args) H K) : Does P f (cv (.slc r o n c true) :: args) H K := by
  refine ⟨h.fn, fun B R w0 L w vs hrel hvs => ?_⟩
  obtain ⟨v, us, rfl, ⟨hr, hv⟩, hus⟩ := hvs
  rcases hv with ⟨h0, _⟩ | hv
  · cases h0
  · exact h.run B R w0 L w _ hrel ⟨_, _, rfl, ⟨hr, .inr hv⟩, hus⟩

section
variable {K : AV → List Nat → List PO → Prop}

theorem equalInsN {ro1 ro2 : Bool} {xs ys : List InsZ} {n : Nat} {c1 c2 : Option Nat} {nn1 nn2 : Bool} (hn : n < 4611686018427387904) (hx : n ≤ xs.length) (_hy : n ≤ ys.length) (he : ∀ j, j < n → xs[j]? = ys[j]?)
    (h : K (bl true) [] [.rows ro1 5 (xs.map rowIns), .rows ro2 5 (ys.map rowIns)]) :
    Does Tryd.prog 21 [cv (.slc 0 0 n c1 nn1), cv (.slc 1 0 n c2 nn2)] [.rows ro1 5 (xs.map rowIns), .rows ro2 5 (ys.map rowIns)] K := by
  refine does Tryd.func21 rfl (by decide) ?_
  refine brc_intro (fun h => ?_) (fun _ => ?_)
  · simp at h
  refine SS.loop (fun i : Nat => i ≤ n) (fun i => [(0, cv (.slc 0 0 n c1 nn1)), (1, cv (.slc 1 0 n c2 nn2)), (12, i64 n), (13, i64 i)]) (fun _ => [.rows ro1 5 (xs.map rowIns), .rows ro2 5 (ys.map rowIns)]) (fun i => n - i) []
    (At.mk' [0, 1, 12, 13] 0 (by simp) ⟨rfl, rfl⟩ rfl rfl (by simp) (by simp) (by simp)) ?_
  intro i hi
  change i ≤ n at hi
  refine S_r ?_
  refine brc_intro (fun h => ?_) (fun _ => h)
  have hlt : i < n := by
    have := of_decide_eq_true h
    have : (i : Int) < (n : Int) := this
    omega
  refine SS.inlR ?_
  refine SS.drawR follows (by decide) ?_
  obtain ⟨x, hx⟩ : ∃ x, xs[i]? = some x := ⟨_, List.getElem?_eq_getElem (by omega)⟩
  have hy : ys[i]? = some x := by rw [← he i hlt, hx]
  refine at2 (by omega) (by omega) (rdA (rowIns x) (by simp [hx]) ?_)
  refine at2 (by omega) (by omega) (rdA (rowIns x) (by simp [hy]) ?_)
  refine And.intro plainIns ?_
  refine brc_intro (fun h' => ?_) (fun _ => ?_)
  · simp at h'
  refine At.mk' [0, 1, 12, 13] (i + 1) ⟨hlt, by omega⟩ ⟨?_, rfl⟩ rfl rfl (by simp) (by simp) (by simp)
  rw [wrap_i64 _ (by omega) (by omega)]
  rfl

theorem cloneCalls {l : List CallZ} {n : Nat} {ro : Bool} (hl : l.length = n) (hn : n < 1000000) (h0 : n = 0 → K (cv .nilslc) [] [.rows ro 2 (l.map rowCallZ)]) (h : K (cv (.slc 1 0 n none true)) [] [.rows ro 2 (l.map rowCallZ), .rows false 2 (l.map rowCallZ)]) :
    Does Tryd.prog 20 [cv (.slc 0 0 n none false)] [.rows ro 2 (l.map rowCallZ)] K := by
  refine Does.nil0 (fun hz => ?_) ?_
  · refine does Tryd.func20 rfl (by decide) ?_
    exact h0 hz
  refine does Tryd.func20 rfl (by decide) ?_
  have e : List.take n (List.drop 0 (l.map rowCallZ)) = l.map rowCallZ := by rw [List.drop_zero, List.take_of_length_le]; simp; omega
  refine And.intro (by simp; omega) (Or.inl (And.intro rfl (And.intro (by simp) (And.intro ?_ (And.intro ?_ ?_)))))
  · rw [e, List.length_map, hl]
    show (0 + n) * 16 ≤ _
    omega
  · rw [e, List.length_map, hl]
    omega
  · rw [e]
    show K (cv (.slc 1 0 (0 + (l.map rowCallZ).length) none true)) [] [.rows ro 2 (l.map rowCallZ), .rows false 2 (l.map rowCallZ)]
    rw [Nat.zero_add, List.length_map, hl]
    exact h

theorem gCodeI {ls : List (List CallZ)} {i : Nat} {l : List CallZ} (hi : ls[i]? = some l) (hl : l.length ≤ 12) (hf : ∀ c ∈ l, gFit c) (h : K (.tup [.c (.slc 1 0 (gathP l).length none false), okP]) [] [callsH false ls, .rows false 5 ((gathP l).map rowIns)]) :
    Does Tryd.prog 19 [cv (.islc 0 i 0 l.length none false)] [callsH false ls] K := by
  refine Does.row (l.map rowCallZ) (by simp [hi]) (by simp) ?_
  refine gCode hl hf ?_
  exact ⟨rfl, h⟩

theorem gCodeR {l : List CallZ} {rs : List (List FC)} {n : Nat} {nn : Bool} (hrs : l.map rowCallZ = rs) (hn : l.length = n) (hl : l.length ≤ 12) (hf : ∀ c ∈ l, gFit c) (h : K (.tup [.c (.slc 1 0 (gathP l).length none false), okP]) [] [.rows false 2 (l.map rowCallZ), .rows false 5 ((gathP l).map rowIns)]) :
    Does Tryd.prog 19 [cv (.slc 0 0 n none nn)] [.rows false 2 rs] K := by
  subst hrs hn
  cases nn
  · exact gCode hl hf h
  · exact Does.loose (gCode hl hf h)

theorem cloneCallsI {ls : List (List CallZ)} {i : Nat} {l : List CallZ} {n : Nat} (hi : ls[i]? = some l) (hl : l.length = n) (hn : n < 1000000) (h0 : n = 0 → K (cv .nilslc) [] [callsH false ls]) (h : K (cv (.slc 1 0 n none true)) [] [callsH false ls, .rows false 2 (l.map rowCallZ)]) :
    Does Tryd.prog 20 [cv (.islc 0 i 0 n none false)] [callsH false ls] K := by
  refine Does.row (l.map rowCallZ) (by simp [hi]) (by simp [hl]) ?_
  refine cloneCalls hl hn (fun hz => ?_) ?_
  · exact ⟨rfl, h0 hz⟩
  · exact ⟨rfl, h⟩

end

theorem gathP_get (l : List CallZ) (c : CallZ) : ∀ j, j < (gathP l).length - 1 → (gathP l)[j]? = (gathP (l ++ [c]))[j]? := fun j hj => by
  rw [gathP, List.length_append, List.length_singleton] at hj
  rw [gathP, gathP, gathU_snoc, List.getElem?_append_left (by omega), List.append_assoc, List.getElem?_append_left (by omega)]

theorem gathP_last (l : List CallZ) : (gathP l)[(gathP l).length - 1]? = some ⟨0, 0, 0, 0, 0⟩ := by
  rw [gathP, List.length_append, List.length_singleton, List.getElem?_append_right (by omega)]
  simp

theorem gathP_more (l : List CallZ) (c : CallZ) : (gathP l).length < (gathP (l ++ [c])).length := by
  have := gathI_len (gathU l).length c
  rw [gathP, gathP, gathU_snoc]
  simp; omega

set_option maxHeartbeats 4000000 in
theorem gatherJoins (l : List Int) (_hw : ∀ x ∈ l, -9223372036854775808 ≤ x ∧ x ≤ 9223372036854775807) (hl : l.length ≤ 17592186044416) (a : Int) (_ha : -9223372036854775808 ≤ a ∧ a ≤ 9223372036854775807) :
    Does Tryd.prog 3 [cv (.slc 0 0 l.length none false), i64 a] [.rows true 1 (l.map rowZ), rtH] fun v _ _ => v = bl true := by
  refine does Tryd.func3 rfl (by decide) ?_
  change Does Tryd.prog 16 _ _ _
  refine Does.alone 2 (gathered ?_)
  refine And.intro (by simp) ?_
  change Does Tryd.prog 17 _ _ _
  refine Does.on 3 [2] _ _ (Does.asRo (guests (l := [l]) (n := 1) (ro := true) rfl (by omega) (fun x hx => ?_) ?_))
  · obtain rfl := List.mem_singleton.1 hx
    omega
  refine And.intro rfl (And.intro rfl (And.intro rfl ?_))
  have hone : guestsZ [l] = [guestJ l 6] := rfl
  rw [hone]
  obtain ⟨g1, g2, g3, g4⟩ := guests_made [l]
  rw [hone] at g1 g2 g3 g4
  have hc6 : (guestJ l 6).length ≤ 6 := g2 _ (by simp)
  have hct : ∀ c ∈ guestJ l 6, c ∈ guestT ++ ownL := g3 _ (by simp)
  generalize guestJ l 6 = calls at hc6 hct
  clear g1 g2 g3 g4 hone
  refine And.intro (by decide) (And.intro (by decide) ?_)
  refine Exists.intro (calls.map rowCallZ) (And.intro rfl ?_)
  rw [List.length_map]
  change Does Tryd.prog 18 _ _ _
  refine Does.alone 5 (pick a 4 (by decide) ?_)
  have hp := pickZ_lt a (n := 4) (by decide)
  obtain ⟨w, hw, hwc⟩ : ∃ w : Int, ([7, 8, 9, 11] : List Int)[(pickZ a 4).toNat]? = some w ∧ (w = 7 ∨ w = 8 ∨ w = 9 ∨ w = 11) := by
    generalize pickZ a 4 = q at hp
    rcases (show q = 0 ∨ q = 1 ∨ q = 2 ∨ q = 3 by omega) with rfl | rfl | rfl | rfl
    · exact ⟨_, rfl, by omega⟩
    · exact ⟨_, rfl, by omega⟩
    · exact ⟨_, rfl, by omega⟩
    · exact ⟨_, rfl, by omega⟩
  refine at2 hp.1 hp.2 (rd1 (rowZ w) (.int .i64 w) ?_ rfl ?_)
  · have : ([7, 8, 9, 11] : List Int).map rowZ = [[.int .i64 7], [.int .i64 8], [.int .i64 9], [.int .i64 11]] := rfl
    rw [← this, Nat.zero_add, List.getElem?_map, hw]
    rfl
  have hfit : ∀ c ∈ calls, gFit c := fun c hc => asked_ok.1 c (hct c hc)
  have hfit2 : ∀ c ∈ calls ++ [⟨w, 0⟩], gFit c := fun c hc => by
    rcases List.mem_append.1 hc with hc | hc
    · exact hfit c hc
    · obtain rfl := List.mem_singleton.1 hc
      rcases hwc with rfl | rfl | rfl | rfl <;> rfl
  change Does Tryd.prog 19 _ _ _
  refine Does.on 6 [3] _ _ (gCodeI (ls := [calls]) (i := 0) (l := calls) rfl (by omega) hfit ?_)
  have q1 := gathP_get calls ⟨w, 0⟩
  have q2 := gathP_last calls
  have q3 := gathP_last (calls ++ [⟨w, 0⟩])
  have q4 := gathP_more calls ⟨w, 0⟩
  have q5 : 1 ≤ (gathP calls).length := by rw [gathP]; simp
  have q6 : (gathP (calls ++ [⟨w, 0⟩])).length ≤ 1000 := by
    have := gathU_len (calls ++ [⟨w, 0⟩]) (calls.length + 1)
    rw [List.take_of_length_le (by simp)] at this
    rw [gathP, List.length_append]
    simp only [List.length_singleton]
    omega
  refine SS.drawR follows (by decide) ?_
  refine And.intro ?_ ?_
  · change Does Tryd.prog 20 _ _ _
    refine Does.on 7 [3] _ _ (cloneCallsI (ls := [calls]) (i := 0) (l := calls) rfl rfl (by omega) (fun hz => ?_) ?_)
    · have hnil : calls = [] := List.length_eq_zero_iff.1 hz
      refine And.intro rfl ?_
      refine And.intro (Nat.le_refl _) (And.intro (by show 1 * 16 ≤ _; omega) (And.intro (by show 1 ≤ _; omega) ?_))
      change Does Tryd.prog 19 _ _ _
      refine Does.on 9 [8] _ _ (gCodeR (l := calls ++ [⟨w, 0⟩]) (rs := [[.int .i64 w, .int .i64 0]]) (n := 1) (nn := false) (by rw [hnil]; rfl) (by rw [hnil]; rfl) (by simp; omega) hfit2 ?_)
      clear hfit hfit2 hct
      generalize gathP calls = p at q1 q2 q4 q5 ⊢
      generalize gathP (calls ++ [⟨w, 0⟩]) = q at q1 q3 q4 q6 ⊢
      repeat' (first | refine And.intro rfl ?_ | fail)
      refine SS.drawR follows (by decide) ?_
      refine brc_intro (fun h1 => ?_) (fun h1 => ?_)
      · refine brc_intro (fun h2 => ?_) (fun h2 => ?_)
        · have wl : IntKind.i64.wrap ((p.length : Int) - 1) = ((p.length - 1 : Nat) : Int) := by rw [wrap_i64 _ (by omega) (by omega)]; omega
          have w0 : (0 : Int) ≤ IntKind.i64.wrap ((p.length : Int) - 1) := by rw [wl]; omega
          have w1 : IntKind.i64.wrap ((p.length : Int) - 1) ≤ (p.length : Int) := by rw [wl]; omega
          have w2 : IntKind.i64.wrap ((p.length : Int) - 1) ≤ (q.length : Int) := by rw [wl]; omega
          refine Or.inl (at2 w0 w1 ?_)
          refine Or.inl (at2 w0 w2 ?_)
          rw [wl, Int.toNat_natCast]
          change Does Tryd.prog 21 _ _ _
          refine Does.on 10 [6, 9] _ _ (equalInsN (xs := p) (ys := q) (n := p.length - 1) (by omega) (by omega) (by omega) q1 ?_)
          repeat' (first | refine And.intro rfl ?_ | refine And.intro (Or.inl (And.intro w0 (And.intro w1 rfl))) ?_ | refine And.intro (Or.inl (And.intro w0 (And.intro w2 rfl))) ?_ | fail)
          refine at2 w0 (by rw [wl]; omega) (rdA (rowIns ⟨0, 0, 0, 0, 0⟩) (by rw [wl]; simp [q2]) ?_)
          refine And.intro plainIns ?_
          have wl2 : IntKind.i64.wrap ((q.length : Int) - 1) = ((q.length - 1 : Nat) : Int) := by rw [wrap_i64 _ (by omega) (by omega)]; omega
          refine at2 (by rw [wl2]; omega) (by rw [wl2]; omega) (rdA (rowIns ⟨0, 0, 0, 0, 0⟩) (by rw [wl2]; simp [q3]) ?_)
          refine And.intro plainIns ?_
          rfl
        · have h2 := of_decide_eq_false h2
          omega
      · have h1 := of_decide_eq_false h1
        omega
    · refine And.intro rfl ?_
      refine And.intro (Nat.le_refl _) (Or.inl (And.intro rfl (And.intro (by simp) (And.intro ?_ (And.intro ?_ ?_)))))
      · show (calls.length + 1) * 16 ≤ _
        omega
      · show calls.length + 1 ≤ _
        omega
      change Does Tryd.prog 19 _ _ _
      refine Does.on 9 [7] _ _ (gCodeR (l := calls ++ [⟨w, 0⟩]) (rs := calls.map rowCallZ ++ [[.int .i64 w, .int .i64 0]]) (n := calls.length + 1) (nn := true) (by simp) (by simp) (by simp; omega) hfit2 ?_)
      clear hfit hfit2 hct
      generalize gathP calls = p at q1 q2 q4 q5 ⊢
      generalize gathP (calls ++ [⟨w, 0⟩]) = q at q1 q3 q4 q6 ⊢
      repeat' (first | refine And.intro rfl ?_ | fail)
      refine SS.drawR follows (by decide) ?_
      refine brc_intro (fun h1 => ?_) (fun h1 => ?_)
      · refine brc_intro (fun h2 => ?_) (fun h2 => ?_)
        · have wl : IntKind.i64.wrap ((p.length : Int) - 1) = ((p.length - 1 : Nat) : Int) := by rw [wrap_i64 _ (by omega) (by omega)]; omega
          have w0 : (0 : Int) ≤ IntKind.i64.wrap ((p.length : Int) - 1) := by rw [wl]; omega
          have w1 : IntKind.i64.wrap ((p.length : Int) - 1) ≤ (p.length : Int) := by rw [wl]; omega
          have w2 : IntKind.i64.wrap ((p.length : Int) - 1) ≤ (q.length : Int) := by rw [wl]; omega
          refine Or.inl (at2 w0 w1 ?_)
          refine Or.inl (at2 w0 w2 ?_)
          rw [wl, Int.toNat_natCast]
          change Does Tryd.prog 21 _ _ _
          refine Does.on 10 [6, 9] _ _ (equalInsN (xs := p) (ys := q) (n := p.length - 1) (by omega) (by omega) (by omega) q1 ?_)
          repeat' (first | refine And.intro rfl ?_ | refine And.intro (Or.inl (And.intro w0 (And.intro w1 rfl))) ?_ | refine And.intro (Or.inl (And.intro w0 (And.intro w2 rfl))) ?_ | fail)
          refine at2 w0 (by rw [wl]; omega) (rdA (rowIns ⟨0, 0, 0, 0, 0⟩) (by rw [wl]; simp [q2]) ?_)
          refine And.intro plainIns ?_
          have wl2 : IntKind.i64.wrap ((q.length : Int) - 1) = ((q.length - 1 : Nat) : Int) := by rw [wrap_i64 _ (by omega) (by omega)]; omega
          refine at2 (by rw [wl2]; omega) (by rw [wl2]; omega) (rdA (rowIns ⟨0, 0, 0, 0, 0⟩) (by rw [wl2]; simp [q3]) ?_)
          refine And.intro plainIns ?_
          rfl
        · have h2 := of_decide_eq_false h2
          omega
      · have h1 := of_decide_eq_false h1
        omega
  · refine And.intro rfl ?_
    change Does Tryd.prog 20 _ _ _
    refine Does.on 8 [3] _ _ (cloneCallsI (ls := [calls]) (i := 0) (l := calls) rfl rfl (by omega) (fun hz => ?_) ?_)
    · have hnil : calls = [] := List.length_eq_zero_iff.1 hz
      refine And.intro (Nat.le_refl _) (And.intro (by show 1 * 16 ≤ _; omega) (And.intro (by show 1 ≤ _; omega) ?_))
      change Does Tryd.prog 19 _ _ _
      refine Does.on 9 [8] _ _ (gCodeR (l := calls ++ [⟨w, 0⟩]) (rs := [[.int .i64 w, .int .i64 0]]) (n := 1) (nn := false) (by rw [hnil]; rfl) (by rw [hnil]; rfl) (by simp; omega) hfit2 ?_)
      clear hfit hfit2 hct
      generalize gathP calls = p at q1 q2 q4 q5 ⊢
      generalize gathP (calls ++ [⟨w, 0⟩]) = q at q1 q3 q4 q6 ⊢
      repeat' (first | refine And.intro rfl ?_ | fail)
      refine SS.drawR follows (by decide) ?_
      refine brc_intro (fun h1 => ?_) (fun h1 => ?_)
      · refine brc_intro (fun h2 => ?_) (fun h2 => ?_)
        · have wl : IntKind.i64.wrap ((p.length : Int) - 1) = ((p.length - 1 : Nat) : Int) := by rw [wrap_i64 _ (by omega) (by omega)]; omega
          have w0 : (0 : Int) ≤ IntKind.i64.wrap ((p.length : Int) - 1) := by rw [wl]; omega
          have w1 : IntKind.i64.wrap ((p.length : Int) - 1) ≤ (p.length : Int) := by rw [wl]; omega
          have w2 : IntKind.i64.wrap ((p.length : Int) - 1) ≤ (q.length : Int) := by rw [wl]; omega
          refine Or.inl (at2 w0 w1 ?_)
          refine Or.inl (at2 w0 w2 ?_)
          rw [wl, Int.toNat_natCast]
          change Does Tryd.prog 21 _ _ _
          refine Does.on 10 [6, 9] _ _ (equalInsN (xs := p) (ys := q) (n := p.length - 1) (by omega) (by omega) (by omega) q1 ?_)
          repeat' (first | refine And.intro rfl ?_ | refine And.intro (Or.inl (And.intro w0 (And.intro w1 rfl))) ?_ | refine And.intro (Or.inl (And.intro w0 (And.intro w2 rfl))) ?_ | fail)
          refine at2 w0 (by rw [wl]; omega) (rdA (rowIns ⟨0, 0, 0, 0, 0⟩) (by rw [wl]; simp [q2]) ?_)
          refine And.intro plainIns ?_
          have wl2 : IntKind.i64.wrap ((q.length : Int) - 1) = ((q.length - 1 : Nat) : Int) := by rw [wrap_i64 _ (by omega) (by omega)]; omega
          refine at2 (by rw [wl2]; omega) (by rw [wl2]; omega) (rdA (rowIns ⟨0, 0, 0, 0, 0⟩) (by rw [wl2]; simp [q3]) ?_)
          refine And.intro plainIns ?_
          rfl
        · have h2 := of_decide_eq_false h2
          omega
      · have h1 := of_decide_eq_false h1
        omega
    · skip
      refine And.intro (Nat.le_refl _) (Or.inl (And.intro rfl (And.intro (by simp) (And.intro ?_ (And.intro ?_ ?_)))))
      · show (calls.length + 1) * 16 ≤ _
        omega
      · show calls.length + 1 ≤ _
        omega
      change Does Tryd.prog 19 _ _ _
      refine Does.on 9 [8] _ _ (gCodeR (l := calls ++ [⟨w, 0⟩]) (rs := calls.map rowCallZ ++ [[.int .i64 w, .int .i64 0]]) (n := calls.length + 1) (nn := true) (by simp) (by simp) (by simp; omega) hfit2 ?_)
      clear hfit hfit2 hct
      generalize gathP calls = p at q1 q2 q4 q5 ⊢
      generalize gathP (calls ++ [⟨w, 0⟩]) = q at q1 q3 q4 q6 ⊢
      repeat' (first | refine And.intro rfl ?_ | fail)
      refine SS.drawR follows (by decide) ?_
      refine brc_intro (fun h1 => ?_) (fun h1 => ?_)
      · refine brc_intro (fun h2 => ?_) (fun h2 => ?_)
        · have wl : IntKind.i64.wrap ((p.length : Int) - 1) = ((p.length - 1 : Nat) : Int) := by rw [wrap_i64 _ (by omega) (by omega)]; omega
          have w0 : (0 : Int) ≤ IntKind.i64.wrap ((p.length : Int) - 1) := by rw [wl]; omega
          have w1 : IntKind.i64.wrap ((p.length : Int) - 1) ≤ (p.length : Int) := by rw [wl]; omega
          have w2 : IntKind.i64.wrap ((p.length : Int) - 1) ≤ (q.length : Int) := by rw [wl]; omega
          refine Or.inl (at2 w0 w1 ?_)
          refine Or.inl (at2 w0 w2 ?_)
          rw [wl, Int.toNat_natCast]
          change Does Tryd.prog 21 _ _ _
          refine Does.on 10 [6, 9] _ _ (equalInsN (xs := p) (ys := q) (n := p.length - 1) (by omega) (by omega) (by omega) q1 ?_)
          repeat' (first | refine And.intro rfl ?_ | refine And.intro (Or.inl (And.intro w0 (And.intro w1 rfl))) ?_ | refine And.intro (Or.inl (And.intro w0 (And.intro w2 rfl))) ?_ | fail)
          refine at2 w0 (by rw [wl]; omega) (rdA (rowIns ⟨0, 0, 0, 0, 0⟩) (by rw [wl]; simp [q2]) ?_)
          refine And.intro plainIns ?_
          have wl2 : IntKind.i64.wrap ((q.length : Int) - 1) = ((q.length - 1 : Nat) : Int) := by rw [wrap_i64 _ (by omega) (by omega)]; omega
          refine at2 (by rw [wl2]; omega) (by rw [wl2]; omega) (rdA (rowIns ⟨0, 0, 0, 0, 0⟩) (by rw [wl2]; simp [q3]) ?_)
          refine And.intro plainIns ?_
          rfl
        · have h2 := of_decide_eq_false h2
          omega
      · have h1 := of_decide_eq_false h1
        omega

end Go.Mac
