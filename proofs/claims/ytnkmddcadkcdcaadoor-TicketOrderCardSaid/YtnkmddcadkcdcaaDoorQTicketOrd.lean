/- Tickets: who came first is first. -/
import Derived.Test.YtnkmddcadkcdcaaDoorQTicL
open Go Go.Proofs Go.Mac
set_option maxRecDepth 100000
namespace Go.Mac

theorem drew_take {l : List ActZ} {i : Nat} {a : ActZ} (h : l[i]? = some a) : drew (l.take (i + 1)) = if a.o = 8 ∧ a.c = 0 then drew (l.take i) ++ [a.t] else drew (l.take i) := by
  rw [List.take_add_one, h]
  exact drew_snoc _ _

theorem freed_take {l : List ActZ} {i : Nat} {a : ActZ} (h : l[i]? = some a) : freed (l.take (i + 1)) = if a.o = 8 ∧ a.c = 1 then freed (l.take i) ++ [a.t] else freed (l.take i) := by
  rw [List.take_add_one, h]
  exact freed_snoc _ _

theorem drew_len (l : List ActZ) : (drew l).length ≤ l.length := by rw [drew, List.length_map]; exact List.length_filter_le _ _
theorem freed_len (l : List ActZ) : (freed l).length ≤ l.length := by rw [freed, List.length_map]; exact List.length_filter_le _ _

theorem ticketOrder (a : Int) (_ha : -9223372036854775808 ≤ a ∧ a ≤ 9223372036854775807) (b : Int) (_hb : -9223372036854775808 ≤ b ∧ b ≤ 9223372036854775807) (ms : List MoveZ) (dn : Bool) :
    Does Tryd.prog 3 [i64 a, i64 b, cv (.slc 0 0 ms.length none false), bl dn] [.rows true 2 (ms.map rowMove), rtH] fun v _ _ => v = bl true := by
  refine does Tryd.func3 rfl (by decide) ?_
  change Does Tryd.prog 22 _ _ _
  refine Does.alone 2 (ticketed ?_)
  refine brc_intro (fun _ => rfl) (fun h => ?_)
  have hms : ms.length ≤ 600 := by
    have := of_decide_eq_false h
    omega
  change Does Tryd.prog 23 _ _ _
  refine Does.alone 2 (pick a 8 (by decide) ?_)
  change Does Tryd.prog 23 _ _ _
  refine Does.alone 2 (pick b 6 (by decide) ?_)
  have hpa := pickZ_lt a (n := 8) (by decide)
  have hpb := pickZ_lt b (n := 6) (by decide)
  rw [wrap_i64 (1 + pickZ a 8) (by omega) (by omega)]
  obtain ⟨n, hn⟩ := Int.eq_ofNat_of_zero_le (show 0 ≤ 1 + pickZ a 8 by omega)
  obtain ⟨c, hc⟩ := Int.eq_ofNat_of_zero_le hpb.1
  have hn8 : n ≤ 8 := by omega
  have hc5 : c ≤ 5 := by omega
  rw [hn, hc]
  clear hn hc hpa hpb
  change Does Tryd.prog 25 _ _ _
  refine Does.alone 2 (lockers (n := n) (times := c) (by omega) (by omega) ?_)
  obtain ⟨hr, hI⟩ := tickets_made hn8 hc5 ms
  obtain ⟨z, hz⟩ : ∃ z, movesZ (mz0 ((List.replicate n (lockL c)).map ticketP) [0, 0]) ms = z := ⟨_, rfl⟩
  rw [hz] at hI
  have hll := lockL_len c
  change Does Tryd.prog 24 _ _ _
  refine Does.on 4 [2, 3, 0] _ _ (made (ls := List.replicate n (lockL c)) (ps := (List.replicate n (lockL c)).map ticketP) (ws := [0, 0]) (ms := ms) (f := 26) (n := n) (nc := 2) (ro := false) (ro2 := false) (ro3 := true) (by simp) (by simp) rfl rfl (by omega) (by decide) (by omega) hr (by decide) (hz := hz) (fun i l p hl hp K' hK' => ?_) fun v hv hw => ?_)
  · obtain rfl : ticketP l = p := by
      rw [List.getElem?_map, hl] at hp
      exact Option.some.inj hp
    obtain rfl := (List.mem_replicate.1 (List.mem_of_getElem? hl)).2
    exact ticketCode' i i _ hl (by omega) (lockFitT c) hK'
  generalize List.replicate n (lockL c) = calls
  clear hr hz
  have facts : ∀ z1 : MZ, WF z1 → (∃ D : List Nat, ∃ w : Nat, drew z1.al = castL D ∧ freed z1.al = castL (D.take w) ∧ w ≤ D.length ∧ (dn = true → w = n * c)) → ∃ w : Nat, w ≤ (drew z1.al).length ∧ (freed z1.al).length = w ∧ freed z1.al <+: drew z1.al ∧ (dn = true → w = n * c) := fun z1 _ ⟨D, w, h1, h2, h3, h4⟩ =>
    ⟨w, by rw [h1, List.length_map]; exact h3, by rw [h2, List.length_map, List.length_take]; omega, by rw [h1, h2]; exact (List.take_prefix w D).map _, h4⟩
  refine brc_intro (fun hdn => ?_) (fun hdn => ?_)
  · change Does Tryd.prog 27 _ _ _
    refine Does.on 13 [4, 5, 6, 7, 8, 9, 10, 11, 12] _ _ (fairFinish (m := z) (v := v) hw hv fun v1 _ hv1 hw1 => ?_)
    obtain ⟨_, D, hD, _, f1, f2, _⟩ := tic_fin hI (by omega)
    obtain ⟨w, q1, q2, q3, q4⟩ := facts (finish z) hw1 ⟨D, D.length, f1, by rw [f2, List.take_length], Nat.le_refl _, fun _ => hD⟩
    generalize finish z = z1 at hw1 q1 q2 q3
    have hal1 := hw1.al
    have hk1 := hw1.k
    change Does Tryd.prog 28 _ _ _
    refine Does.on 13 [4, 5, 6, 7, 8, 9, 10, 11, 12] _ _ (coreActs (m := z1) (v := v1) (by omega) ?_)
    refine SS.nil 10 1 (by decide) rfl ?_
    refine SS.nil 11 1 (by decide) rfl ?_
    refine SS.loop (fun i : Nat => i ≤ z1.al.length) (fun i => [(0, i64 n), (1, i64 c), (3, bl dn), (10, cv (.slc 14 0 (drew (z1.al.take i)).length none false)), (11, cv (.slc 15 0 (freed (z1.al.take i)).length none false)), (36, cv (.slc 13 0 z1.al.length none false)), (37, i64 z1.al.length), (38, i64 i)])
      (fun i => [.rows true 2 (ms.map rowMove), rtH, callsH false calls, .rows false 1 [rowU 0, rowU 0]] ++ machS 4 z1 v1 ++ [.rows false 6 (z1.al.map rowAct), .rows false 1 ((drew (z1.al.take i)).map rowZ), .rows false 1 ((freed (z1.al.take i)).map rowZ)]) (fun i => z1.al.length - i) [2, 10, 11, 12, 14, 15]
      (At.mk' [0, 1, 3, 10, 11, 36, 37, 38] 0 (Nat.zero_le _) ⟨rfl, rfl⟩ rfl rfl (by simp) (by simp) (by decide)) ?_
    intro i hi
    change i ≤ z1.al.length at hi
    have hdl := drew_len (z1.al.take i)
    have hfl := freed_len (z1.al.take i)
    rw [List.length_take] at hdl hfl
    refine S_r ?_
    refine brc_intro (fun hlt => ?_) (fun hlt => ?_)
    · have hlt2 : i < z1.al.length := by
        have := of_decide_eq_true hlt
        have : (i : Int) < (z1.al.length : Int) := this
        omega
      obtain ⟨a, ha⟩ : ∃ a, z1.al[i]? = some a := ⟨_, List.getElem?_eq_getElem hlt2⟩
      have hd1 := drew_take ha
      have hf1 := freed_take ha
      have wr : IntKind.i64.wrap ((i : Int) + 1) = ((i + 1 : Nat) : Int) := wrap_i64 _ (by omega) (by omega)
      refine SS.inlR ?_
      refine at2 (a := (0 : Int) ≤ (i : Int)) (b := (i : Int) < (z1.al.length : Int)) (by omega) (by omega) (rdA (rowAct a) (by simp [ha]) ?_)
      have skip (h1 : ¬ (a.o = 8 ∧ a.c = 0)) (h2 : ¬ (a.o = 8 ∧ a.c = 1)) : drew (z1.al.take (i + 1)) = drew (z1.al.take i) ∧ freed (z1.al.take (i + 1)) = freed (z1.al.take i) := ⟨by rw [hd1, if_neg h1], by rw [hf1, if_neg h2]⟩
      refine brc_intro (fun h8 => ?_) (fun h8 => ?_)
      · have h8 : a.o = 8 := by simpa using h8
        refine brc_intro (fun h0 => ?_) (fun h0 => ?_)
        · have h0 : a.c = 0 := by simpa using h0
          rw [if_pos ⟨h8, h0⟩] at hd1
          rw [if_neg (fun h => by omega)] at hf1
          refine And.intro (by simp) (Or.inl (And.intro rfl (And.intro (by simp) (And.intro (by show ((drew (z1.al.take i)).length + 1) * 8 ≤ _; omega) (And.intro (by show (drew (z1.al.take i)).length + 1 ≤ _; omega) ?_)))))
          refine brc_intro (fun _ => ?_) (fun h => ?_)
          · refine brc_intro (fun h1 => ?_) (fun _ => ?_)
            · exact absurd (show a.c = 1 by simpa using h1) (by omega)
            refine At.mk' [0, 1, 3, 10, 11, 36, 37, 38] (i + 1) ⟨hlt2, by omega⟩ ⟨?_, rfl⟩ ?_ rfl (by simp) (by simp) (by decide)
            · rw [wr, hd1, hf1, List.length_append]
              rfl
            · rw [hd1, hf1, List.map_append]
              rfl
          · exact absurd h8 (by simpa using h)
        · have h0 : a.c ≠ 0 := by simpa using h0
          refine brc_intro (fun _ => ?_) (fun h => ?_)
          · refine brc_intro (fun h1 => ?_) (fun h1 => ?_)
            · have h1 : a.c = 1 := by simpa using h1
              rw [if_neg (fun h => h0 h.2)] at hd1
              rw [if_pos ⟨h8, h1⟩] at hf1
              refine And.intro (by simp) (Or.inl (And.intro rfl (And.intro (by simp) (And.intro (by show ((freed (z1.al.take i)).length + 1) * 8 ≤ _; omega) (And.intro (by show (freed (z1.al.take i)).length + 1 ≤ _; omega) ?_)))))
              refine At.mk' [0, 1, 3, 10, 11, 36, 37, 38] (i + 1) ⟨hlt2, by omega⟩ ⟨?_, rfl⟩ ?_ rfl (by simp) (by simp) (by decide)
              · rw [wr, hd1, hf1, List.length_append]
                rfl
              · rw [hd1, hf1, List.map_append]
                rfl
            · have h1 : a.c ≠ 1 := by simpa using h1
              obtain ⟨e1, e2⟩ := skip (fun h => h0 h.2) (fun h => h1 h.2)
              refine At.mk' [0, 1, 3, 10, 11, 36, 37, 38] (i + 1) ⟨hlt2, by omega⟩ ⟨?_, rfl⟩ ?_ rfl (by simp) (by simp) (by decide)
              · rw [wr, e1, e2]
                first | done | rfl
              · rw [e1, e2]
                first | done | rfl
          · exact absurd h8 (by simpa using h)
      · have h8 : a.o ≠ 8 := by simpa using h8
        refine brc_intro (fun h => ?_) (fun _ => ?_)
        · exact absurd (show a.o = 8 by simpa using h) h8
        obtain ⟨e1, e2⟩ := skip (fun h => h8 h.1) (fun h => h8 h.1)
        refine At.mk' [0, 1, 3, 10, 11, 36, 37, 38] (i + 1) ⟨hlt2, by omega⟩ ⟨?_, rfl⟩ ?_ rfl (by simp) (by simp) (by decide)
        · rw [wr, e1, e2]
          first | done | rfl
        · rw [e1, e2]
          first | done | rfl
    · have hlt : ¬ (i : Int) < (z1.al.length : Int) := of_decide_eq_false hlt
      obtain rfl : i = z1.al.length := by omega
      rw [List.take_length] at hdl hfl ⊢
      refine brc_intro (fun _ => ?_) (fun h => ?_)
      · refine Or.inl (at2 (by omega) (by omega) ?_)
        change Does Tryd.prog 29 _ _ _
        rw [q2, Int.toNat_natCast]
        refine Does.on 16 [15, 14] _ _ (equalIntP (xs := freed z1.al) (ys := drew z1.al) q2 (by omega) q3 ?_)
        cases dn with
        | false => exact rfl
        | true =>
          have q4 := q4 rfl
          have wm : IntKind.i64.wrap ((n : Int) * (c : Int)) = ((n * c : Nat) : Int) := by
            have h1 : n * c ≤ 8 * c := Nat.mul_le_mul_right _ hn8
            rw [← Int.natCast_mul]
            exact wrap_i64 _ (by omega) (by omega)
          show bl _ = _
          rw [wm, q4]
          simp
      · exfalso
        have h := of_decide_eq_false h
        have h : ¬ ((freed z1.al).length : Int) ≤ ((drew z1.al).length : Int) := h
        omega
  · obtain ⟨D, w, gs, hJ⟩ := hI
    obtain ⟨w, q1, q2, q3, q4⟩ := facts z hw ⟨D, w, hJ.fo.1, hJ.fo.2, hJ.wl, fun h => by rw [show dn = false from hdn] at h; cases h⟩
    have hal1 := hw.al
    have hk1 := hw.k
    change Does Tryd.prog 28 _ _ _
    refine Does.on 13 [4, 5, 6, 7, 8, 9, 10, 11, 12] _ _ (coreActs (m := z) (v := v) (by omega) ?_)
    refine SS.nil 10 1 (by decide) rfl ?_
    refine SS.nil 11 1 (by decide) rfl ?_
    refine SS.loop (fun i : Nat => i ≤ z.al.length) (fun i => [(0, i64 n), (1, i64 c), (3, bl dn), (10, cv (.slc 14 0 (drew (z.al.take i)).length none false)), (11, cv (.slc 15 0 (freed (z.al.take i)).length none false)), (36, cv (.slc 13 0 z.al.length none false)), (37, i64 z.al.length), (38, i64 i)])
      (fun i => [.rows true 2 (ms.map rowMove), rtH, callsH false calls, .rows false 1 [rowU 0, rowU 0]] ++ machS 4 z v ++ [.rows false 6 (z.al.map rowAct), .rows false 1 ((drew (z.al.take i)).map rowZ), .rows false 1 ((freed (z.al.take i)).map rowZ)]) (fun i => z.al.length - i) [2, 10, 11, 12, 14, 15]
      (At.mk' [0, 1, 3, 10, 11, 36, 37, 38] 0 (Nat.zero_le _) ⟨rfl, rfl⟩ rfl rfl (by simp) (by simp) (by decide)) ?_
    intro i hi
    change i ≤ z.al.length at hi
    have hdl := drew_len (z.al.take i)
    have hfl := freed_len (z.al.take i)
    rw [List.length_take] at hdl hfl
    refine S_r ?_
    refine brc_intro (fun hlt => ?_) (fun hlt => ?_)
    · have hlt2 : i < z.al.length := by
        have := of_decide_eq_true hlt
        have : (i : Int) < (z.al.length : Int) := this
        omega
      obtain ⟨a, ha⟩ : ∃ a, z.al[i]? = some a := ⟨_, List.getElem?_eq_getElem hlt2⟩
      have hd1 := drew_take ha
      have hf1 := freed_take ha
      have wr : IntKind.i64.wrap ((i : Int) + 1) = ((i + 1 : Nat) : Int) := wrap_i64 _ (by omega) (by omega)
      refine SS.inlR ?_
      refine at2 (a := (0 : Int) ≤ (i : Int)) (b := (i : Int) < (z.al.length : Int)) (by omega) (by omega) (rdA (rowAct a) (by simp [ha]) ?_)
      have skip (h1 : ¬ (a.o = 8 ∧ a.c = 0)) (h2 : ¬ (a.o = 8 ∧ a.c = 1)) : drew (z.al.take (i + 1)) = drew (z.al.take i) ∧ freed (z.al.take (i + 1)) = freed (z.al.take i) := ⟨by rw [hd1, if_neg h1], by rw [hf1, if_neg h2]⟩
      refine brc_intro (fun h8 => ?_) (fun h8 => ?_)
      · have h8 : a.o = 8 := by simpa using h8
        refine brc_intro (fun h0 => ?_) (fun h0 => ?_)
        · have h0 : a.c = 0 := by simpa using h0
          rw [if_pos ⟨h8, h0⟩] at hd1
          rw [if_neg (fun h => by omega)] at hf1
          refine And.intro (by simp) (Or.inl (And.intro rfl (And.intro (by simp) (And.intro (by show ((drew (z.al.take i)).length + 1) * 8 ≤ _; omega) (And.intro (by show (drew (z.al.take i)).length + 1 ≤ _; omega) ?_)))))
          refine brc_intro (fun _ => ?_) (fun h => ?_)
          · refine brc_intro (fun h1 => ?_) (fun _ => ?_)
            · exact absurd (show a.c = 1 by simpa using h1) (by omega)
            refine At.mk' [0, 1, 3, 10, 11, 36, 37, 38] (i + 1) ⟨hlt2, by omega⟩ ⟨?_, rfl⟩ ?_ rfl (by simp) (by simp) (by decide)
            · rw [wr, hd1, hf1, List.length_append]
              rfl
            · rw [hd1, hf1, List.map_append]
              rfl
          · exact absurd h8 (by simpa using h)
        · have h0 : a.c ≠ 0 := by simpa using h0
          refine brc_intro (fun _ => ?_) (fun h => ?_)
          · refine brc_intro (fun h1 => ?_) (fun h1 => ?_)
            · have h1 : a.c = 1 := by simpa using h1
              rw [if_neg (fun h => h0 h.2)] at hd1
              rw [if_pos ⟨h8, h1⟩] at hf1
              refine And.intro (by simp) (Or.inl (And.intro rfl (And.intro (by simp) (And.intro (by show ((freed (z.al.take i)).length + 1) * 8 ≤ _; omega) (And.intro (by show (freed (z.al.take i)).length + 1 ≤ _; omega) ?_)))))
              refine At.mk' [0, 1, 3, 10, 11, 36, 37, 38] (i + 1) ⟨hlt2, by omega⟩ ⟨?_, rfl⟩ ?_ rfl (by simp) (by simp) (by decide)
              · rw [wr, hd1, hf1, List.length_append]
                rfl
              · rw [hd1, hf1, List.map_append]
                rfl
            · have h1 : a.c ≠ 1 := by simpa using h1
              obtain ⟨e1, e2⟩ := skip (fun h => h0 h.2) (fun h => h1 h.2)
              refine At.mk' [0, 1, 3, 10, 11, 36, 37, 38] (i + 1) ⟨hlt2, by omega⟩ ⟨?_, rfl⟩ ?_ rfl (by simp) (by simp) (by decide)
              · rw [wr, e1, e2]
                first | done | rfl
              · rw [e1, e2]
                first | done | rfl
          · exact absurd h8 (by simpa using h)
      · have h8 : a.o ≠ 8 := by simpa using h8
        refine brc_intro (fun h => ?_) (fun _ => ?_)
        · exact absurd (show a.o = 8 by simpa using h) h8
        obtain ⟨e1, e2⟩ := skip (fun h => h8 h.1) (fun h => h8 h.1)
        refine At.mk' [0, 1, 3, 10, 11, 36, 37, 38] (i + 1) ⟨hlt2, by omega⟩ ⟨?_, rfl⟩ ?_ rfl (by simp) (by simp) (by decide)
        · rw [wr, e1, e2]
          first | done | rfl
        · rw [e1, e2]
          first | done | rfl
    · have hlt : ¬ (i : Int) < (z.al.length : Int) := of_decide_eq_false hlt
      obtain rfl : i = z.al.length := by omega
      rw [List.take_length] at hdl hfl ⊢
      refine brc_intro (fun _ => ?_) (fun h => ?_)
      · refine Or.inl (at2 (by omega) (by omega) ?_)
        change Does Tryd.prog 29 _ _ _
        rw [q2, Int.toNat_natCast]
        refine Does.on 16 [15, 14] _ _ (equalIntP (xs := freed z.al) (ys := drew z.al) q2 (by omega) q3 ?_)
        cases dn with
        | false => exact rfl
        | true =>
          have q4 := q4 rfl
          have wm : IntKind.i64.wrap ((n : Int) * (c : Int)) = ((n * c : Nat) : Int) := by
            have h1 : n * c ≤ 8 * c := Nat.mul_le_mul_right _ hn8
            rw [← Int.natCast_mul]
            exact wrap_i64 _ (by omega) (by omega)
          show bl _ = _
          rw [wm, q4]
          simp
      · exfalso
        have h := of_decide_eq_false h
        have h : ¬ ((freed z.al).length : Int) ≤ ((drew z.al).length : Int) := h
        omega

end Go.Mac
