/- The judge: an event, and events one behind the other. -/
import Derived.Test.YtlimhldkkbaohaaGreatDoorGBase
open Go Go.Proofs Go.Mac
set_option maxRecDepth 100000
namespace Go.Mac

structure EvZ where
  w : Int
  a : Int
  t : Int
  v : Int

abbrev rowEv (x : EvZ) : List FC := [.int .i64 x.w, .int .i64 x.a, .int .i64 x.t, .int .i64 x.v]

/-- What is wrong with an event, and who came, and went, behind it. -/
def oneZ (e : EvZ) (came gone : List Int) : Int × List Int × List Int :=
  if e.a ≠ 1 ∧ e.a ≠ 2 then (1, came, gone)
  else if e.t < 0 ∨ e.t ≥ came.length then (2, came, gone)
  else if e.a = 1 then
    if came.getD e.t.toNat 0 ≠ gone.getD e.t.toNat 0 ∨ e.v ≠ came.getD e.t.toNat 0 + 1 then (10, came, gone) else (0, came.set e.t.toNat (came.getD e.t.toNat 0 + 1), gone)
  else if came.getD e.t.toNat 0 = gone.getD e.t.toNat 0 ∨ e.v ≠ came.getD e.t.toNat 0 then (10, came, gone)
  else if came.any fun c => decide (c < e.v) then (13, came, gone) else (0, came, gone.set e.t.toNat (gone.getD e.t.toNat 0 + 1))

theorem gx {l : List Int} {i : Int} {x : Int} (h : l[i.toNat]? = some x) : (l.map rowZ)[0 + Int.toNat i]? = some (rowZ x) := by simp [h]

def smallL (b : Int) (l : List Int) : Prop := ∀ x ∈ l, 0 ≤ x ∧ x ≤ b

section
variable {K : AV → List Nat → List PO → Prop}

abbrev twoH (came gone : List Int) : List PO := [.rows false 1 (came.map rowZ), .rows false 1 (gone.map rowZ)]

theorem one (e : EvZ) {came gone : List Int} {n : Nat} {b : Int} {nn1 nn2 : Bool} (hc : came.length = n) (hg : gone.length = n) (hn : n < 4611686018427387904) (hb : b < 4611686018427387904) (h1 : smallL b came) (h2 : smallL b gone)
    (h : K (i64 (oneZ e came gone).1) [] (twoH (oneZ e came gone).2.1 (oneZ e came gone).2.2)) :
    Does Tryz.prog 77 [.p (.agg [.f (.int .i64 e.w), .f (.int .i64 e.a), .f (.int .i64 e.t), .f (.int .i64 e.v)]), cv (.slc 0 0 n none nn1), cv (.slc 1 0 n none nn2)] (twoH came gone) K := by
  obtain ⟨w, a, t, v⟩ := e
  refine does Tryz.func77 rfl (by decide) ?_
  refine SS.inlR ?_
  refine brc_intro (fun ha => ?_) (fun ha => ?_)
  · have ha : a ≠ 1 := by simpa using ha
    refine brc_intro (fun ha' => ?_) (fun ha' => ?_)
    · rw [oneZ, if_pos ⟨ha, by simpa using ha'⟩] at h
      exact h
    · obtain rfl : a = 2 := by simpa using ha'
      clear ha ha'
      rw [oneZ, if_neg (by simp)] at h
      refine brc_intro (fun ht => ?_) (fun ht => ?_)
      · rw [if_pos (.inl (of_decide_eq_true ht))] at h
        exact h
      have ht : ¬ t < 0 := of_decide_eq_false ht
      refine brc_intro (fun ht' => ?_) (fun ht' => ?_)
      · rw [if_pos (.inr (by rw [hc]; exact of_decide_eq_true ht'))] at h
        exact h
      have ht' : ¬ t ≥ n := of_decide_eq_false ht'
      dsimp only at h
      rw [if_neg (by rw [hc]; omega), if_neg (by simp)] at h
      obtain ⟨c, hcv⟩ : ∃ c, came[t.toNat]? = some c := ⟨_, List.getElem?_eq_getElem (by omega)⟩
      obtain ⟨g, hgv⟩ : ∃ g, gone[t.toNat]? = some g := ⟨_, List.getElem?_eq_getElem (by omega)⟩
      have e1 : came.getD t.toNat 0 = c := by rw [List.getD_eq_getElem?_getD, hcv]; rfl
      have e2 : gone.getD t.toNat 0 = g := by rw [List.getD_eq_getElem?_getD, hgv]; rfl
      have hcb := h1 c (List.mem_iff_getElem?.2 ⟨_, hcv⟩)
      have hgb := h2 g (List.mem_iff_getElem?.2 ⟨_, hgv⟩)
      rw [e1, e2] at h
      refine SS.drawR follows (by decide) ?_
      refine at2 (a := 0 ≤ t) (b := t < (n : Int)) (by omega) (by omega) (rd1 (rowZ c) (.int .i64 c) (gx hcv) rfl ?_)
      refine at2 (a := 0 ≤ t) (b := t < (n : Int)) (by omega) (by omega) (rd1 (rowZ g) (.int .i64 g) (gx hgv) rfl ?_)
      refine brc_intro (fun h3 => ?_) (fun h3 => ?_)
      · rw [if_pos (.inl (by simpa using h3))] at h
        exact h
      refine at2 (a := 0 ≤ t) (b := t < (n : Int)) (by omega) (by omega) (rd1 (rowZ c) (.int .i64 c) (gx hcv) rfl ?_)
      refine brc_intro (fun h4 => ?_) (fun h4 => ?_)
      · rw [if_pos (.inr (by simpa using h4))] at h
        exact h
      have hcg : c ≠ g := by simpa using h3
      obtain rfl : v = c := by simpa using h4
      rw [if_neg (by simp [hcg])] at h
      refine SS.loop (fun i : Nat => i ≤ n ∧ ∀ (j : Nat) (x : Int), j < i → came[j]? = some x → ¬ x < v) (fun i => [(2, cv (.slc 1 0 n none nn2)), (3, cv (.ptr 2 0)), (7, i64 t), (78, cv (.slc 0 0 n none nn1)), (79, i64 n), (80, i64 i)])
        (fun _ => twoH came gone ++ [.one [.f (.int .i64 w), .f (.int .i64 2), .f (.int .i64 t), .f (.int .i64 v)]]) (fun i => n - i) [] (At.mk' [2, 3, 7, 78, 79, 80] 0 (by simp) ⟨rfl, rfl⟩ rfl rfl (by simp) (by simp) (by simp)) ?_
      rintro i ⟨hi, hj⟩
      refine S_r ?_
      refine brc_intro (fun hlt => ?_) (fun hlt => ?_)
      · have hlt : i < n := by have := of_decide_eq_true hlt; omega
        obtain ⟨x, hx⟩ : ∃ x, came[i]? = some x := ⟨_, List.getElem?_eq_getElem (by omega)⟩
        refine SS.inlR ?_
        refine at2 (by omega) (by omega) (rd1 (rowZ x) (.int .i64 x) (by simp [hx]) rfl ?_)
        refine brc_intro (fun hxv => ?_) (fun hxv => ?_)
        · have hxv : x < v := of_decide_eq_true hxv
          rw [if_pos (List.any_eq_true.2 ⟨x, List.mem_iff_getElem?.2 ⟨i, hx⟩, by simpa using hxv⟩)] at h
          exact h
        · have hxv : ¬ x < v := of_decide_eq_false hxv
          refine At.mk' [2, 3, 7, 78, 79, 80] (i + 1) ⟨⟨hlt, fun j y hj' hy => ?_⟩, by omega⟩ ⟨?_, rfl⟩ rfl rfl (by simp) (by simp) (by simp)
          · rcases Nat.lt_succ_iff_lt_or_eq.1 hj' with hl | rfl
            · exact hj j y hl hy
            · rw [hx] at hy; cases hy; exact hxv
          · rw [wrap_i64 _ (by omega) (by omega)]
            rfl
      · have hlt : ¬ (i : Int) < n := of_decide_eq_false hlt
        rw [if_neg (by
          rw [Bool.not_eq_true, List.any_eq_false]
          intro x hx
          obtain ⟨j, hj'⟩ := List.mem_iff_getElem?.1 hx
          have := (List.getElem?_eq_some_iff.1 hj').1
          simpa using hj j x (by omega) hj')] at h
        refine at2 (a := 0 ≤ t) (b := t < (n : Int)) (by omega) (by omega) (rd1 (rowZ g) (.int .i64 g) (gx hgv) rfl ?_)
        refine at2 (a := 0 ≤ t) (b := t < (n : Int)) (by omega) (by omega) (wr1 (rowZ g) (gx hgv) ?_)
        rw [wrap_i64 (g + 1) (by omega) (by omega), Nat.zero_add t.toNat]
        rw [twoH, List.map_set] at h
        exact h
  · obtain rfl : a = 1 := by simpa using ha
    clear ha
    rw [oneZ, if_neg (by simp)] at h
    refine brc_intro (fun ht => ?_) (fun ht => ?_)
    · rw [if_pos (.inl (of_decide_eq_true ht))] at h
      exact h
    have ht : ¬ t < 0 := of_decide_eq_false ht
    refine brc_intro (fun ht' => ?_) (fun ht' => ?_)
    · rw [if_pos (.inr (by rw [hc]; exact of_decide_eq_true ht'))] at h
      exact h
    have ht' : ¬ t ≥ n := of_decide_eq_false ht'
    dsimp only at h
    rw [if_neg (by rw [hc]; omega), if_pos rfl] at h
    obtain ⟨c, hcv⟩ : ∃ c, came[t.toNat]? = some c := ⟨_, List.getElem?_eq_getElem (by omega)⟩
    obtain ⟨g, hgv⟩ : ∃ g, gone[t.toNat]? = some g := ⟨_, List.getElem?_eq_getElem (by omega)⟩
    have e1 : came.getD t.toNat 0 = c := by rw [List.getD_eq_getElem?_getD, hcv]; rfl
    have e2 : gone.getD t.toNat 0 = g := by rw [List.getD_eq_getElem?_getD, hgv]; rfl
    have hcb := h1 c (List.mem_iff_getElem?.2 ⟨_, hcv⟩)
    rw [e1, e2] at h
    refine SS.drawR follows (by decide) ?_
    refine at2 (a := 0 ≤ t) (b := t < (n : Int)) (by omega) (by omega) (rd1 (rowZ c) (.int .i64 c) (gx hcv) rfl ?_)
    refine at2 (a := 0 ≤ t) (b := t < (n : Int)) (by omega) (by omega) (rd1 (rowZ g) (.int .i64 g) (gx hgv) rfl ?_)
    refine brc_intro (fun h3 => ?_) (fun h3 => ?_)
    · rw [if_pos (.inl (by simpa using h3))] at h
      exact h
    refine at2 (a := 0 ≤ t) (b := t < (n : Int)) (by omega) (by omega) (rd1 (rowZ c) (.int .i64 c) (gx hcv) rfl ?_)
    have hwr := wrap_i64 (c + 1) (by omega) (by omega)
    refine brc_intro (fun h4 => ?_) (fun h4 => ?_)
    · have h4 : (v != IntKind.i64.wrap (c + 1)) = true := h4
      rw [hwr] at h4
      rw [if_pos (.inr (by simpa using h4))] at h
      exact h
    have h4 : (v != IntKind.i64.wrap (c + 1)) = false := h4
    rw [hwr] at h4
    have hcg : c = g := by simpa using h3
    have hv : v = c + 1 := by simpa using h4
    rw [if_neg (by simp [hcg, hv])] at h
    refine at2 (a := 0 ≤ t) (b := t < (n : Int)) (by omega) (by omega) (rd1 (rowZ c) (.int .i64 c) (gx hcv) rfl ?_)
    refine at2 (a := 0 ≤ t) (b := t < (n : Int)) (by omega) (by omega) (wr1 (rowZ c) (gx hcv) ?_)
    rw [wrap_i64 (c + 1) (by omega) (by omega), Nat.zero_add t.toNat]
    rw [twoH, List.map_set] at h
    exact h

/-- The first event that is wrong, and what is wrong with it; and who came, and went. -/
def runZ : List EvZ → Nat → List Int → List Int → Option (Int × Nat)
  | [], _, _, _ => none
  | e :: l, i, c, g => if (oneZ e c g).1 = 0 then runZ l (i + 1) (oneZ e c g).2.1 (oneZ e c g).2.2 else some ((oneZ e c g).1, i)

def noughts (n : Nat) : List Int := List.replicate n 0
def checkZ (n : Nat) (l : List EvZ) : Option (Int × Nat) := runZ l 0 (noughts n) (noughts n)

theorem oneZ_len (e : EvZ) (came gone : List Int) : (oneZ e came gone).2.1.length = came.length ∧ (oneZ e came gone).2.2.length = gone.length := by
  unfold oneZ
  split
  · exact ⟨rfl, rfl⟩
  split
  · exact ⟨rfl, rfl⟩
  split
  · split <;> simp
  split
  · exact ⟨rfl, rfl⟩
  split <;> simp

theorem noughts_small (n : Nat) : smallL (0 : Nat) (noughts n) := fun x hx => by
  have := List.eq_of_mem_replicate hx
  subst this
  exact ⟨Int.le_refl _, Int.le_refl _⟩

theorem noughts_rows (n : Nat) : (noughts n).map rowZ = List.replicate n [.int .i64 0] := by
  simp [noughts]

theorem small_set {b : Int} {l : List Int} {i : Nat} {x : Int} (h : smallL b l) (hx : 0 ≤ x ∧ x ≤ b + 1) : smallL (b + 1) (l.set i x) := by
  intro y hy
  rcases List.mem_or_eq_of_mem_set hy with hy | rfl
  · have := h y hy
    omega
  · exact hx

theorem small_more {b : Int} {l : List Int} (h : smallL b l) : smallL (b + 1) l := fun y hy => by
  have := h y hy
  omega

theorem small_getD {b : Int} {l : List Int} (hb : 0 ≤ b) (h : smallL b l) (i : Nat) : 0 ≤ l.getD i 0 ∧ l.getD i 0 ≤ b := by
  rw [List.getD_eq_getElem?_getD]
  rcases hi : l[i]? with _ | x
  · exact ⟨Int.le_refl _, hb⟩
  · exact h x (List.mem_iff_getElem?.2 ⟨i, hi⟩)

theorem oneZ_small (e : EvZ) {b : Int} {came gone : List Int} (hb : 0 ≤ b) (h1 : smallL b came) (h2 : smallL b gone) : smallL (b + 1) (oneZ e came gone).2.1 ∧ smallL (b + 1) (oneZ e came gone).2.2 := by
  have g1 := small_getD hb h1 e.t.toNat
  have g2 := small_getD hb h2 e.t.toNat
  unfold oneZ
  split
  · exact ⟨small_more h1, small_more h2⟩
  split
  · exact ⟨small_more h1, small_more h2⟩
  split
  · split
    · exact ⟨small_more h1, small_more h2⟩
    · exact ⟨small_set h1 (by omega), small_more h2⟩
  split
  · exact ⟨small_more h1, small_more h2⟩
  split
  · exact ⟨small_more h1, small_more h2⟩
  · exact ⟨small_more h1, small_set h2 (by omega)⟩

theorem gev {l : List EvZ} {i : Nat} {x : EvZ} (h : l[i]? = some x) : (l.map rowEv)[0 + Int.toNat (i : Int)]? = some (rowEv x) := by simp [h]

section
variable {K : AV → List Nat → List PO → Prop}

theorem check {all l : List EvZ} {k n : Nat} {ro nn : Bool} {c : Option Nat} (hk : l.length = k) (hall : ∀ i, i < k → all[i]? = l[i]?) (hn : 1 ≤ n ∧ n ≤ 16) (hkb : k < 1000000)
    (h0 : checkZ n l = none → K (cv .niliface) [] [.rows ro 4 (all.map rowEv)])
    (h1 : ∀ (e : Int) (i : Nat), checkZ n l = some (e, i) → K (cv (.iface 71 (.ptr 1 0))) [] [.rows ro 4 (all.map rowEv), .one [.f (.int .i64 e), .f (.int .i64 i)]]) :
    Does Tryz.prog 47 [cv (.slc 0 0 k c nn), i64 n] [.rows ro 4 (all.map rowEv)] K := by
  refine Does.keep 1 rfl ?_
  refine does Tryz.func47 rfl (by decide) ?_
  refine brc_intro (fun h => ?_) (fun _ => ?_)
  · have := of_decide_eq_true h; omega
  refine brc_intro (fun h => ?_) (fun _ => ?_)
  · have := of_decide_eq_true h; omega
  refine SS.drawR follows (by decide) ?_
  have b1 : (0 : Int) ≤ (n : Int) := by omega
  have b2 : (n : Int) ≤ (n : Int) := by omega
  have b3 : ((8 : Nat) : Int) * (n : Int) ≤ 281474976710656 := by omega
  have b4 : (n : Int) ≤ 9223372036854775807 := by omega
  repeat' (first
    | refine And.intro rfl ?_
    | refine And.intro b1 (And.intro b2 (And.intro b3 (And.intro b4 ?_)))
    | refine And.intro ?_ ?_)
  all_goals first
    | (
      refine SS.loop (fun p : Nat × List Int × List Int => p.1 ≤ k ∧ p.2.1.length = n ∧ p.2.2.length = n ∧ smallL p.1 p.2.1 ∧ smallL p.1 p.2.2 ∧ checkZ n l = runZ (l.drop p.1) p.1 p.2.1 p.2.2)
        (fun p => [(5, cv (.slc 1 0 n none true)), (6, cv (.slc 2 0 n none true)), (21, cv (.slc 0 0 k c nn)), (22, i64 k), (23, i64 p.1)]) (fun p => [.rows ro 4 (all.map rowEv)] ++ twoH p.2.1 p.2.2) (fun p => k - p.1) []
        (At.mk' [5, 6, 21, 22, 23] (0, noughts n, noughts n) ⟨by simp, by simp [noughts], by simp [noughts], noughts_small n, noughts_small n, rfl⟩ ⟨rfl, rfl⟩ (by
          show [PO.rows ro 4 (all.map rowEv), PO.rows false 1 (List.replicate n [.int .i64 0]), PO.rows false 1 (List.replicate n [.int .i64 0])] = _
          rw [← noughts_rows n]
          rfl) rfl (by simp) (by simp) (by simp)) ?_
      rintro ⟨i, came, gone⟩ ⟨hi, hc, hg, s1, s2, hrun⟩
      change i ≤ k at hi
      change came.length = n at hc
      change gone.length = n at hg
      change smallL i came at s1
      change smallL i gone at s2
      change checkZ n l = runZ (l.drop i) i came gone at hrun
      refine S_r ?_
      refine brc_intro (fun hlt => ?_) (fun hlt => ?_)
      · have hlt : i < k := by
          have := of_decide_eq_true hlt
          have : (i : Int) < (k : Int) := this
          omega
        obtain ⟨x, hx⟩ : ∃ x, l[i]? = some x := ⟨_, List.getElem?_eq_getElem (by omega)⟩
        have hax := (hall i hlt).trans hx
        have hd : l.drop i = x :: l.drop (i + 1) := by
          rw [List.drop_eq_getElem_cons (by omega)]
          congr 1
          exact (List.getElem?_eq_some_iff.1 hx).2
        rw [hd, runZ] at hrun
        have hl := oneZ_len x came gone
        have hs := oneZ_small x (by omega) s1 s2
        refine SS.inlR ?_
        refine at2 (a := (0 : Int) ≤ (i : Int)) (b := (i : Int) < (k : Int)) (by omega) (by omega) (rdA (rowEv x) (gev hax) ?_)
        change Does Tryz.prog 77 _ _ _
        refine Does.on 4 [1, 2] _ _ (one x (came := came) (gone := gone) (n := n) (b := i) (nn1 := true) (nn2 := true) hc hg (by omega) (by omega) s1 s2 ?_)
        generalize oneZ x came gone = r at *
        obtain ⟨e, came', gone'⟩ := r
        refine brc_intro (fun he => ?_) (fun he => ?_)
        · have he : e ≠ 0 := by simpa using he
          rw [if_neg he] at hrun
          exact ⟨5, [0, 4], [.rows ro 4 (all.map rowEv), .one [.f (.int .i64 e), .f (.int .i64 i)]], cv (.iface 71 (.ptr 1 0)), rfl, rfl, by decide, by decide, rfl, rfl, rfl, rfl, rfl, h1 e i hrun⟩
        · have he : e = 0 := by simpa using he
          rw [if_pos he] at hrun
          refine At.mk' [5, 6, 21, 22, 23] (i + 1, came', gone') ⟨⟨by show i + 1 ≤ k; omega, hl.1.trans hc, hl.2.trans hg, hs.1, hs.2, hrun⟩, by show k - (i + 1) < k - i; omega⟩ ⟨?_, rfl⟩ rfl rfl (by simp) (by simp) (by simp)
          rw [wrap_i64 _ (by omega) (by omega)]
          rfl
      · have hlt : ¬ (i : Int) < (k : Int) := of_decide_eq_false hlt
        have hd : l.drop i = [] := List.drop_eq_nil_iff.2 (by omega)
        rw [hd] at hrun
        exact ⟨1, [0], [.rows ro 4 (all.map rowEv)], cv .niliface, rfl, rfl, by decide, by decide, rfl, rfl, rfl, rfl, rfl, h0 hrun⟩)
    | (
      refine SS.loop (fun p : Nat × List Int × List Int => p.1 ≤ k ∧ p.2.1.length = n ∧ p.2.2.length = n ∧ smallL p.1 p.2.1 ∧ smallL p.1 p.2.2 ∧ checkZ n l = runZ (l.drop p.1) p.1 p.2.1 p.2.2)
        (fun p => [(5, cv (.slc 2 0 n none true)), (6, cv (.slc 1 0 n none true)), (21, cv (.slc 0 0 k c nn)), (22, i64 k), (23, i64 p.1)]) (fun p => [.rows ro 4 (all.map rowEv)] ++ twoH p.2.2 p.2.1) (fun p => k - p.1) []
        (At.mk' [5, 6, 21, 22, 23] (0, noughts n, noughts n) ⟨by simp, by simp [noughts], by simp [noughts], noughts_small n, noughts_small n, rfl⟩ ⟨rfl, rfl⟩ (by
          show [PO.rows ro 4 (all.map rowEv), PO.rows false 1 (List.replicate n [.int .i64 0]), PO.rows false 1 (List.replicate n [.int .i64 0])] = _
          rw [← noughts_rows n]
          rfl) rfl (by simp) (by simp) (by simp)) ?_
      rintro ⟨i, came, gone⟩ ⟨hi, hc, hg, s1, s2, hrun⟩
      change i ≤ k at hi
      change came.length = n at hc
      change gone.length = n at hg
      change smallL i came at s1
      change smallL i gone at s2
      change checkZ n l = runZ (l.drop i) i came gone at hrun
      refine S_r ?_
      refine brc_intro (fun hlt => ?_) (fun hlt => ?_)
      · have hlt : i < k := by
          have := of_decide_eq_true hlt
          have : (i : Int) < (k : Int) := this
          omega
        obtain ⟨x, hx⟩ : ∃ x, l[i]? = some x := ⟨_, List.getElem?_eq_getElem (by omega)⟩
        have hax := (hall i hlt).trans hx
        have hd : l.drop i = x :: l.drop (i + 1) := by
          rw [List.drop_eq_getElem_cons (by omega)]
          congr 1
          exact (List.getElem?_eq_some_iff.1 hx).2
        rw [hd, runZ] at hrun
        have hl := oneZ_len x came gone
        have hs := oneZ_small x (by omega) s1 s2
        refine SS.inlR ?_
        refine at2 (a := (0 : Int) ≤ (i : Int)) (b := (i : Int) < (k : Int)) (by omega) (by omega) (rdA (rowEv x) (gev hax) ?_)
        change Does Tryz.prog 77 _ _ _
        refine Does.on 4 [2, 1] _ _ (one x (came := came) (gone := gone) (n := n) (b := i) (nn1 := true) (nn2 := true) hc hg (by omega) (by omega) s1 s2 ?_)
        generalize oneZ x came gone = r at *
        obtain ⟨e, came', gone'⟩ := r
        refine brc_intro (fun he => ?_) (fun he => ?_)
        · have he : e ≠ 0 := by simpa using he
          rw [if_neg he] at hrun
          exact ⟨5, [0, 4], [.rows ro 4 (all.map rowEv), .one [.f (.int .i64 e), .f (.int .i64 i)]], cv (.iface 71 (.ptr 1 0)), rfl, rfl, by decide, by decide, rfl, rfl, rfl, rfl, rfl, h1 e i hrun⟩
        · have he : e = 0 := by simpa using he
          rw [if_pos he] at hrun
          refine At.mk' [5, 6, 21, 22, 23] (i + 1, came', gone') ⟨⟨by show i + 1 ≤ k; omega, hl.1.trans hc, hl.2.trans hg, hs.1, hs.2, hrun⟩, by show k - (i + 1) < k - i; omega⟩ ⟨?_, rfl⟩ rfl rfl (by simp) (by simp) (by simp)
          rw [wrap_i64 _ (by omega) (by omega)]
          rfl
      · have hlt : ¬ (i : Int) < (k : Int) := of_decide_eq_false hlt
        have hd : l.drop i = [] := List.drop_eq_nil_iff.2 (by omega)
        rw [hd] at hrun
        exact ⟨1, [0], [.rows ro 4 (all.map rowEv)], cv .niliface, rfl, rfl, by decide, by decide, rfl, rfl, rfl, rfl, rfl, h0 hrun⟩)

end

end
end Go.Mac
