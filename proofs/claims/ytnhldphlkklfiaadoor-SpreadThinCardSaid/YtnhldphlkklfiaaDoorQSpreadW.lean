/- Two at a cell: the walk. -/
import Derived.Test.YtnhldphlkklfiaaDoorQSpreadTh
import Derived.Test.YtnhldphlkklfiaaDoorQDanceBd
import Derived.Test.YtnhldphlkklfiaaDoorQStoreA
open Go Go.Proofs Go.Mac
set_option maxRecDepth 100000
namespace Go.Mac

def mapS (st : Bool) (p : MapZ × Nat) (a : ActZ) : MapZ × Nat := if decide (a.o = 7) = st then (mpPut p.1 [a.c] a.t p.2, mpClk p.1 [a.c] p.2) else p

/-- Who came last to which cell: to store, or to look. -/
def mapO (st : Bool) (l : List ActZ) : MapZ × Nat := l.foldl (mapS st) ([], 0)

theorem mapO_snoc (st : Bool) (l : List ActZ) (a : ActZ) : mapO st (l ++ [a]) = mapS st (mapO st l) a := by rw [mapO, List.foldl_append]; rfl

theorem mapO_take {st : Bool} {l : List ActZ} {i : Nat} {a : ActZ} (h : l[i]? = some a) : mapO st (l.take (i + 1)) = mapS st (mapO st (l.take i)) a := by
  rw [List.take_add_one, h]
  exact mapO_snoc st _ a

theorem snoc_ind {α : Type} {P : List α → Prop} (h0 : P []) (hs : ∀ l a, P l → P (l ++ [a])) (l : List α) : P l := by
  have : ∀ n (l : List α), l.length = n → P l := fun n => by
    induction n with
    | zero => intro l hl; rw [List.length_eq_zero_iff.1 hl]; exact h0
    | succ n ih =>
      intro l hl
      have hne : l ≠ [] := fun e => by rw [e] at hl; cases hl
      rw [← List.dropLast_concat_getLast hne]
      exact hs _ _ (ih _ (by rw [List.length_dropLast]; omega))
  exact this _ l rfl

theorem mapO_keys (st : Bool) (l : List ActZ) : ((mapO st l).1.map (·.1)).Nodup ∧ ∀ k, k ∈ (mapO st l).1.map (·.1) ↔ ∃ a ∈ l, decide (a.o = 7) = st ∧ k = [a.c] := by
  induction l using snoc_ind with
  | h0 => exact ⟨List.nodup_nil, fun k => by simp [mapO]⟩
  | hs l a ih =>
    obtain ⟨h1, h2⟩ := ih
    rw [mapO_snoc, mapS]
    by_cases h : decide (a.o = 7) = st
    · rw [if_pos h]
      refine ⟨mpPut_nodup h1, fun k => ?_⟩
      rw [mpPut_mem, h2]
      constructor
      · rintro (rfl | ⟨b, hb, h3⟩)
        · exact ⟨a, by simp, h, rfl⟩
        · exact ⟨b, by simp [hb], h3⟩
      · rintro ⟨b, hb, h3, h4⟩
        rcases List.mem_append.1 hb with hb | hb
        · exact .inr ⟨b, hb, h3, h4⟩
        · rw [List.mem_singleton.1 hb] at h4
          exact .inl h4
    · rw [if_neg h]
      refine ⟨h1, fun k => ?_⟩
      rw [h2]
      constructor
      · rintro ⟨b, hb, h3⟩
        exact ⟨b, by simp [hb], h3⟩
      · rintro ⟨b, hb, h3, h4⟩
        rcases List.mem_append.1 hb with hb | hb
        · exact ⟨b, hb, h3, h4⟩
        · rw [List.mem_singleton.1 hb] at h3
          exact absurd h3 h

theorem mapO_get (st : Bool) (l : List ActZ) (k : List Int) (h : mpHas (mapO st l).1 k = true) : ∃ a ∈ l, decide (a.o = 7) = st ∧ k = [a.c] ∧ mpGet (mapO st l).1 k = a.t := by
  induction l using snoc_ind with
  | h0 => cases h
  | hs l a ih =>
    rw [mapO_snoc, mapS] at h ⊢
    by_cases hs : decide (a.o = 7) = st
    · rw [if_pos hs] at h ⊢
      rw [mpGet_put]
      by_cases hk : k = [a.c]
      · rw [if_pos hk]
        exact ⟨a, by simp, hs, hk, rfl⟩
      · rw [if_neg hk]
        rw [mpHas_put, decide_eq_false hk, Bool.false_or] at h
        obtain ⟨b, hb, h3⟩ := ih h
        exact ⟨b, by simp [hb], h3⟩
    · rw [if_neg hs] at h ⊢
      obtain ⟨b, hb, h3⟩ := ih h
      exact ⟨b, by simp [hb], h3⟩

theorem spreadThin (n : Int) (_hn : -9223372036854775808 ≤ n ∧ n ≤ 9223372036854775807) (R : Int) (_hR : -9223372036854775808 ≤ R ∧ R ≤ 9223372036854775807) (l : List Int) (_hl : ∀ x ∈ l, -9223372036854775808 ≤ x ∧ x ≤ 9223372036854775807) :
    Does Tryd.prog 9 [i64 n, i64 R, cv (.slc 0 0 l.length none false)] [.rows true 1 (l.map rowZ), rtH] fun v _ _ => v = bl true := by
  refine does Tryd.func9 rfl (by decide) ?_
  change Does Tryd.prog 13 _ _ _
  refine Does.on 2 [1] _ _ (danced ?_)
  refine brc_intro (fun _ => rfl) (fun h => ?_)
  have hms : l.length ≤ 600 := by
    have := of_decide_eq_false h
    omega
  change Does Tryd.prog 14 _ _ _
  refine Does.alone 2 (ball 0 n R ?_)
  obtain ⟨n, hn, hn16⟩ := pick16b n
  obtain ⟨R, hR, hR6⟩ := pick7 R
  rw [hn, hR]
  obtain ⟨c1, c2, c3⟩ := spread_thin hn16 hR6 (l.map (pickS n)) (by rw [List.length_map]; omega)
  change Does Tryd.prog 16 _ _ _
  refine Does.alone 2 (floor0 (k := 4) (n := n) (R := R) (kindAll (by decide) hn16 (by omega)) fun v hv hw => ?_)
  refine SS.loop (fun p : Nat × VZ => p.1 ≤ l.length ∧ okV p.2) (fun p => [(0, i64 n), (1, i64 R), (7, cv (.ptr 2 0)), (34, cv (.slc 0 0 l.length none false)), (35, i64 l.length), (36, i64 p.1)])
    (fun p => [.rows true 1 (l.map rowZ), rtH] ++ machS 2 (movesZ (danceM 4 n R) ((l.map (pickS n)).take p.1)) p.2) (fun p => l.length - p.1) [8, 9, 10]
    (At.mk' [0, 1, 7, 34, 35, 36] (0, v) ⟨by simp, hv⟩ ⟨rfl, rfl⟩ rfl rfl (by simp) (by simp) (by decide)) ?_
  rintro ⟨i, v1⟩ ⟨hik, hv1⟩
  change i ≤ l.length at hik
  change okV v1 at hv1
  refine S_r ?_
  refine brc_intro (fun hlt => ?_) (fun hlt => ?_)
  · have hlt : i < l.length := by
      have := of_decide_eq_true hlt
      have : (i : Int) < (l.length : Int) := this
      omega
    obtain ⟨x, hx⟩ : ∃ x, l[i]? = some x := ⟨_, List.getElem?_eq_getElem (by omega)⟩
    have hw1 := hw.moves ((l.map (pickS n)).take i)
    have hnx := movesZ_take (danceM 4 n R) (l.map (pickS n)) i (pickS n x) (by simp [hx])
    rw [moveZ, if_neg (show ¬ (pickS n x).pk = true from fun h => by cases h)] at hnx
    have hup : IntKind.i64.wrap ((i : Int) + 1) = ((i + 1 : Nat) : Int) := wrap_i64 (i + 1) (by omega) (by omega)
    refine at2 (a := (0 : Int) ≤ (i : Int)) (b := (i : Int) < (l.length : Int)) (by omega) (by omega) (rd1 (rowZ x) (.int .i64 x) (by simp [hx]) rfl ?_)
    change Does Tryd.prog 15 _ _ _
    refine Does.alone 11 (pick x n (by omega) ?_)
    change Does Tryd.prog 21 _ _ _
    refine Does.on 11 [2, 3, 4, 5, 6, 7, 8, 9, 10] _ _ (coreStep (m := movesZ (danceM 4 n R) ((l.map (pickS n)).take i)) (v := v1) hw1 hv1 (pickZ x n) (fun _ v' hv' => ?_) fun _ v' hv' => ?_)
    all_goals
      rw [show (stepZ (movesZ (danceM 4 n R) ((l.map (pickS n)).take i)) (pickZ x n)).2 = movesZ (danceM 4 n R) ((l.map (pickS n)).take (i + 1)) from hnx.symm]
      refine At.mk' [0, 1, 7, 34, 35, 36] (i + 1, v') ⟨⟨hlt, hv'⟩, by show l.length - (i + 1) < l.length - i; omega⟩ ⟨?_, rfl⟩ rfl rfl (by simp) (by simp) (by decide)
      rw [hup]
      rfl
  · have hlt : ¬ (i : Int) < (l.length : Int) := of_decide_eq_false hlt
    obtain rfl : i = l.length := by omega
    have hw1 := hw.moves (l.map (pickS n))
    rw [show (l.map (pickS n)).take l.length = l.map (pickS n) from List.take_of_length_le (by rw [List.length_map]; omega)]
    generalize movesZ (danceM 4 n R) (l.map (pickS n)) = z at *
    change Does Tryd.prog 19 _ _ _
    refine Does.on 11 [2, 3, 4, 5, 6, 7, 8, 9, 10] _ _ (fairFinish (m := z) (v := v1) hw1 hv1 fun v2 c hv2 hw2 => ?_)
    generalize finish z = z1 at *
    have hal := hw2.al
    have hkz := hw2.k
    have hsame : ∀ a ∈ z1.al, ∀ b ∈ z1.al, decide (a.o = 7) = decide (b.o = 7) → a.c = b.c → a.t = b.t := fun a ha b hb h1 h2 => by
      obtain ⟨c, t, k, e1, e2, e3⟩ := c1 a ha
      obtain ⟨d, u, j, f1, f2, f3⟩ := c1 b hb
      have hcd : c = d := by omega
      subst hcd
      rcases e3 with ⟨o1, e3⟩ | ⟨o1, e3⟩ <;> rcases f3 with ⟨o2, f3⟩ | ⟨o2, f3⟩
      · rw [e3] at f3
        injection f3 with f3
        injection f3 with f3 _
        rw [e2, f2, f3]
      · rw [o1, o2] at h1; cases h1
      · rw [o1, o2] at h1; cases h1
      · rw [e3] at f3
        injection f3 with f3
        injection f3 with f3 _
        rw [e2, f2, f3]
    change Does Tryd.prog 25 _ _ _
    refine Does.on 13 [2, 3, 4, 5, 6, 7, 8, 9, 10] _ _ (coreActs (m := z1) (v := v2) (by omega) ?_)
    refine SS.loop (fun j : Nat => j ≤ z1.al.length) (fun j => [(0, i64 n), (1, i64 R), (10, cv (.map 11)), (11, cv (.map 12)), (51, cv (.slc 13 0 z1.al.length none false)), (52, i64 z1.al.length), (53, i64 j)])
      (fun j => [.rows true 1 (l.map rowZ), rtH] ++ machS 2 z1 v2 ++ [.mp 0 false (mapO false (z1.al.take j)).1 (mapO false (z1.al.take j)).2, .mp 0 false (mapO true (z1.al.take j)).1 (mapO true (z1.al.take j)).2, .rows false 6 (z1.al.map rowAct)]) (fun j => z1.al.length - j) [8, 9, 10]
      (At.mk' [0, 1, 10, 11, 51, 52, 53] 0 (Nat.zero_le _) ⟨rfl, rfl⟩ rfl rfl (by simp) (by simp) (by decide)) ?_
    intro j hj
    change j ≤ z1.al.length at hj
    refine S_r ?_
    refine brc_intro (fun hlt2 => ?_) (fun hlt2 => ?_)
    · have hlt2 : j < z1.al.length := by
        have := of_decide_eq_true hlt2
        have : (j : Int) < (z1.al.length : Int) := this
        omega
      obtain ⟨a, ha⟩ : ∃ a, z1.al[j]? = some a := ⟨_, List.getElem?_eq_getElem hlt2⟩
      have ham := List.mem_of_getElem? ha
      have hnf := mapO_take (st := false) ha
      have hnt := mapO_take (st := true) ha
      have wr : IntKind.i64.wrap ((j : Int) + 1) = ((j + 1 : Nat) : Int) := wrap_i64 _ (by omega) (by omega)
      have hget : ∀ st, decide (a.o = 7) = st → mpHas (mapO st (z1.al.take j)).1 [a.c] = true → mpGet (mapO st (z1.al.take j)).1 [a.c] = a.t := fun st hst h => by
        obtain ⟨b, hb, h1, h2, h3⟩ := mapO_get st _ _ h
        rw [h3]
        exact hsame b (List.mem_of_mem_take hb) a ham (h1.trans hst.symm) (by injection h2 with h2; exact h2.symm)
      refine SS.inlR ?_
      refine at2 (a := (0 : Int) ≤ (j : Int)) (b := (j : Int) < (z1.al.length : Int)) (by omega) (by omega) (rdA (rowAct a) (gActN ha) ?_)
      refine brc_intro (fun h7 => ?_) (fun h7 => ?_)
      · have h7 : a.o = 7 := by simpa using h7
        have g := hget true (decide_eq_true h7)
        rw [mapS, decide_eq_true h7, if_neg (by decide)] at hnf
        rw [mapS, decide_eq_true h7, if_pos rfl] at hnt
        refine brc_intro (fun hh => ?_) (fun hh => ?_)
        · refine brc_intro (fun h9 => ?_) (fun _ => ?_)
          · have h9 : (mpGet (mapO true (z1.al.take j)).1 [a.c] != a.t) = true := h9
            rw [g hh] at h9
            simp at h9
          refine At.mk' [0, 1, 10, 11, 51, 52, 53] (j + 1) ⟨hlt2, by omega⟩ ⟨?_, rfl⟩ ?_ rfl (by simp) (by simp) (by decide)
          · rw [wr]
          · rw [hnf, hnt]
            rfl
        · refine At.mk' [0, 1, 10, 11, 51, 52, 53] (j + 1) ⟨hlt2, by omega⟩ ⟨?_, rfl⟩ ?_ rfl (by simp) (by simp) (by decide)
          · rw [wr]
          · rw [hnf, hnt]
            rfl
      · have h7 : a.o ≠ 7 := by simpa using h7
        have g := hget false (decide_eq_false h7)
        rw [mapS, decide_eq_false h7, if_pos rfl] at hnf
        rw [mapS, decide_eq_false h7, if_neg (by decide)] at hnt
        refine brc_intro (fun hh => ?_) (fun hh => ?_)
        · refine brc_intro (fun h9 => ?_) (fun _ => ?_)
          · have h9 : (mpGet (mapO false (z1.al.take j)).1 [a.c] != a.t) = true := h9
            rw [g hh] at h9
            simp at h9
          refine At.mk' [0, 1, 10, 11, 51, 52, 53] (j + 1) ⟨hlt2, by omega⟩ ⟨?_, rfl⟩ ?_ rfl (by simp) (by simp) (by decide)
          · rw [wr]
          · rw [hnf, hnt]
            rfl
        · refine At.mk' [0, 1, 10, 11, 51, 52, 53] (j + 1) ⟨hlt2, by omega⟩ ⟨?_, rfl⟩ ?_ rfl (by simp) (by simp) (by decide)
          · rw [wr]
          · rw [hnf, hnt]
            rfl
    · have hlt2 : ¬ (j : Int) < (z1.al.length : Int) := of_decide_eq_false hlt2
      obtain rfl : j = z1.al.length := by omega
      rw [List.take_length]
      obtain ⟨n1, m1⟩ := mapO_keys false z1.al
      obtain ⟨n2, m2⟩ := mapO_keys true z1.al
      have hlen : 1 ≤ R → (mapO false z1.al).1.length = (mapO true z1.al).1.length := fun hR1 => by
        have := keys_len n1 n2 fun k => by
          rw [m1, m2]
          constructor
          · rintro ⟨a, ha, _, rfl⟩
            obtain ⟨p1, p2⟩ := c2 a ha
            obtain ⟨c, hc⟩ := Int.eq_ofNat_of_zero_le p1
            obtain ⟨b, hb, q1, q2⟩ := (c3 hR1 c (by omega)).2
            exact ⟨b, hb, decide_eq_true q1, by rw [q2, hc]⟩
          · rintro ⟨a, ha, _, rfl⟩
            obtain ⟨p1, p2⟩ := c2 a ha
            obtain ⟨c, hc⟩ := Int.eq_ofNat_of_zero_le p1
            obtain ⟨b, hb, q1, q2⟩ := (c3 hR1 c (by omega)).1
            exact ⟨b, hb, decide_eq_false (by omega), by rw [q2, hc]⟩
        simpa using this
      refine brc_intro (fun _ => fin rfl) (fun hne => ?_)
      refine fin ?_
      by_cases hR1 : 1 ≤ R
      · exfalso
        have hne : (((mapO false z1.al).1.length : Int) == ((mapO true z1.al).1.length : Int)) = false := hne
        rw [hlen hR1] at hne
        simp at hne
      · rw [show R = 0 by omega]
        rfl

end Go.Mac
