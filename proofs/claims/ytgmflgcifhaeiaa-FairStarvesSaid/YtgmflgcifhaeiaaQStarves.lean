/- FairStarves: true. -/
import Derived.Test.YtgmflgcifhaeiaaQFairLaw
open Go Go.Proofs Go.Mac
set_option maxRecDepth 100000
namespace Go.Mac

section
variable {K : AV → List Nat → List PO → Prop}

abbrev clo : Nat → CV := fun r => .func 42 [r]

theorem starves1 (t who : Int) (h : K (bl (t == who)) [] [.one [.f (.int .i64 who)]]) : Does Try.prog 42 [i64 t, cv (.ptr 0 0)] [.one [.f (.int .i64 who)]] K := by
  refine does Try.func42 rfl (by decide) ?_
  exact h

theorem cloneZ {ro : Bool} {l : List Int} {c : Option Nat} (n : Nat) (hl : l.length = n) (hn : n ≤ 17592186044416) (h : K (cv (.slc 1 0 n none true)) [] [.rows ro 1 (l.map rowZ), .rows false 1 (l.map rowZ)]) :
    Does Try.prog 41 [cv (.slc 0 0 n c true)] [.rows ro 1 (l.map rowZ)] K := by
  refine does Try.func41 rfl (by decide) ?_
  have e : (List.take n (List.drop 0 (l.map rowZ))) = l.map rowZ := by rw [List.drop_zero, List.take_of_length_le]; simp; omega
  have e2 : (l.map rowZ).length = n := by simp; exact hl
  refine And.intro (by simp; omega) (Or.inl (And.intro rfl (And.intro rfl (And.intro ?_ (And.intro ?_ ?_)))))
  · rw [e, e2]
    show (0 + n) * 8 ≤ _
    omega
  · rw [e, e2]; omega
  · rw [e, e2, Nat.zero_add]
    exact h

theorem cloneZ0 (h : K (cv .nilslc) [] []) : Does Try.prog 41 [cv .nilslc] [] K := by
  refine does Try.func41 rfl (by decide) ?_
  exact h

theorem indexWho {l : List Int} {c : Option Nat} {nn ro : Bool} (who : Int) (n : Nat) (hl : l.length = n) (hn : n < 4611686018427387904)
    (h1 : ∀ i : Nat, l[i]? = some who → (∀ j, j < i → l[j]? ≠ some who) → K (i64 i) [] [.rows ro 1 (l.map rowZ), .one [.f (.int .i64 who)]]) (h0 : (∀ j : Nat, l[j]? ≠ some who) → K (i64 (-1)) [] [.rows ro 1 (l.map rowZ), .one [.f (.int .i64 who)]]) :
    Does Try.prog 50 [cv (.slc 0 0 n c nn), cv (clo 1)] [.rows ro 1 (l.map rowZ), .one [.f (.int .i64 who)]] K := by
  refine does Try.func50 rfl (by decide) ?_
  refine SS.loop (fun i : Nat => i ≤ n ∧ ∀ j, j < i → l[j]? ≠ some who) (fun i => [(0, cv (.slc 0 0 n c nn)), (1, cv (clo 1)), (7, i64 n), (8, i64 i)]) (fun _ => [.rows ro 1 (l.map rowZ), .one [.f (.int .i64 who)]]) (fun i => n - i) []
    (At.mk' [0, 1, 7, 8] 0 (by simp) ⟨rfl, rfl⟩ rfl rfl (by simp) (by simp) (by simp)) ?_
  rintro i ⟨hi, hj⟩
  refine S_r ?_
  refine brc_intro (fun h => ?_) (fun h => ?_)
  · have hlt : i < n := by have := of_decide_eq_true h; omega
    obtain ⟨x, hx⟩ : ∃ x, l[i]? = some x := ⟨_, List.getElem?_eq_getElem (by omega)⟩
    refine SS.inlR ?_
    refine at2 (by omega) (by omega) (rd1 (rowZ x) (.int .i64 x) (by simp [hx]) rfl ?_)
    change Does Try.prog 42 _ _ _
    refine Does.on 2 [1] _ _ (starves1 x who ?_)
    refine brc_intro (fun h' => ?_) (fun h' => ?_)
    · have e : x = who := by simpa using h'
      subst e
      exact h1 i hx hj
    · have e : x ≠ who := by simpa using h'
      refine At.mk' [0, 1, 7, 8] (i + 1) ⟨⟨hlt, fun j hj' => ?_⟩, by omega⟩ ⟨?_, rfl⟩ rfl rfl (by simp) (by simp) (by simp)
      · rcases Nat.lt_succ_iff_lt_or_eq.1 hj' with h | rfl
        · exact hj j h
        · rw [hx]; simpa using e
      · rw [wrap_i64 _ (by omega) (by omega)]
        rfl
  · have h := of_decide_eq_false h
    refine h0 fun j hj' => ?_
    rcases Nat.lt_or_ge j i with h' | h'
    · exact hj j h' hj'
    · rw [List.getElem?_eq_none (by omega)] at hj'; cases hj'

/-- What isn't his. -/
def others (who : Int) (l : List Int) : List Int := l.filter fun x => x != who

theorem others_take {who x : Int} {l : List Int} {j : Nat} (h : l[j]? = some x) : others who (l.take (j + 1)) = others who (l.take j) ++ (if x = who then [] else [x]) := by
  have : l.take (j + 1) = l.take j ++ [x] := by rw [List.take_add_one, h]; rfl
  rw [this]
  unfold others
  rw [List.filter_append]
  congr 1
  by_cases hx : x = who <;> simp [hx]

theorem others_len (who : Int) (l : List Int) (j : Nat) : (others who (l.take j)).length ≤ j := by
  have h1 := List.length_filter_le (fun x => x != who) (l.take j)
  have h2 : (l.take j).length ≤ j := by simp; omega
  unfold others
  omega

theorem others_none {who : Int} {l : List Int} (h : ∀ j : Nat, l[j]? ≠ some who) : others who l = l := by
  unfold others
  rw [List.filter_eq_self]
  intro x hx
  obtain ⟨i, hi⟩ := List.mem_iff_getElem?.1 hx
  simp only [bne_iff_ne]
  rintro rfl
  exact h i hi

theorem others_first {who : Int} {l : List Int} {i : Nat} (h : l[i]? = some who) (hj : ∀ j, j < i → l[j]? ≠ some who) : others who (l.take (i + 1)) = l.take i := by
  rw [others_take h, if_pos rfl, List.append_nil]
  refine others_none fun j hh => ?_
  rw [List.getElem?_take] at hh
  split at hh
  · exact hj j (by assumption) hh
  · cases hh

theorem deleteWho {l : List Int} (who : Int) (n : Nat) (hl : l.length = n) (hn : n < 4611686018427387904)
    (hK : K (cv (.slc 0 0 (others who l).length none true)) [] [.rows false 1 ((others who l ++ List.replicate (n - (others who l).length) 0).map rowZ), .one [.f (.int .i64 who)]]) :
    Does Try.prog 40 [cv (.slc 0 0 n none true), cv (clo 1)] [.rows false 1 (l.map rowZ), .one [.f (.int .i64 who)]] K := by
  refine does Try.func40 rfl (by decide) ?_
  change Does Try.prog 50 _ _ _
  refine indexWho who n hl hn (fun i hi hj => ?_) fun h => ?_
  rotate_left
  · rw [others_none h, hl] at hK
    simp only [Nat.sub_self, List.replicate_zero, List.append_nil] at hK
    exact hK
  have hin : i < n := by have := (List.getElem?_eq_some_iff.1 hi).1; omega
  refine SS.loop (fun x : Nat × List Int => x.1 ≤ n ∧ x.2.length = n ∧ x.2.take (others who (l.take x.1)).length = others who (l.take x.1) ∧ x.2.drop x.1 = l.drop x.1)
    (fun x => [(0, cv (.slc 0 0 n none true)), (1, cv (clo 1)), (5, i64 (others who (l.take x.1)).length), (6, i64 x.1)]) (fun x => [.rows false 1 (x.2.map rowZ), .one [.f (.int .i64 who)]]) (fun x => n - x.1) []
    (At.mk' [0, 1, 5, 6] (i + 1, l) ⟨hin, hl, ?_, rfl⟩ ⟨?_, rfl⟩ rfl rfl (by simp) (by simp) (by simp)) ?_
  · simp only [others_first hi hj]
    simp
  · simp only [others_first hi hj]
    rw [wrap_i64 _ (by omega) (by omega), List.length_take, Nat.min_eq_left (by omega)]
    rfl
  rintro ⟨j, rs⟩ ⟨h1, h2, h3, h4⟩
  simp only at h1 h2 h3 h4
  have hlen := others_len who l j
  refine S_r ?_
  refine brc_intro (fun h => ?_) (fun h => ?_)
  · have hlt : j < n := by have := of_decide_eq_true h; simp only at this; omega
    obtain ⟨x, hx⟩ : ∃ x, l[j]? = some x := ⟨_, List.getElem?_eq_getElem (by omega)⟩
    have hrx : rs[j]? = some x := by
      have := congrArg (·[0]?) h4
      simpa [hx] using this
    refine SS.inlR ?_
    refine at2 (by simp) (by simpa using hlt) (rd1 (rowZ x) (.int .i64 x) (by simp [hrx]) rfl ?_)
    change Does Try.prog 42 _ _ _
    refine Does.on 2 [1] _ _ (starves1 x who ?_)
    refine brc_intro (fun h' => ?_) (fun h' => ?_)
    · have e : x ≠ who := by simpa using h'
      obtain ⟨y, hy⟩ : ∃ y, rs[(others who (l.take j)).length]? = some y := ⟨_, List.getElem?_eq_getElem (by omega)⟩
      have ho : others who (l.take (j + 1)) = others who (l.take j) ++ [x] := by rw [others_take hx, if_neg e]
      refine at2 (by dsimp only; omega) (by dsimp only; omega) (wr1 (rowZ y) (by simp [hy]) ?_)
      refine At.mk' [0, 1, 5, 6] (j + 1, rs.set (others who (l.take j)).length x) ⟨⟨hlt, by simpa using h2, ?_, ?_⟩, by simp only; omega⟩ ⟨?_, rfl⟩ (congrArg (fun r => ([.rows false 1 r, .one [.f (.int .i64 who)]] : List PO)) ?_) rfl (by simp) (by simp) (by simp)
      · simp only [ho, List.length_append, List.length_singleton]
        rw [List.take_add_one, List.getElem?_set_self (by omega), List.take_set_of_le (Nat.le_refl _), h3]
        rfl
      · simp only
        rw [List.drop_set_of_lt (by omega)]
        have := congrArg (List.drop 1) h4
        simpa [List.drop_drop, Nat.add_comm] using this
      · simp only [ho, List.length_append, List.length_singleton]
        rw [wrap_i64 _ (by omega) (by omega), wrap_i64 _ (by omega) (by omega)]
        rfl
      · simp
    · have e : x = who := by simpa using h'
      have ho : others who (l.take (j + 1)) = others who (l.take j) := by rw [others_take hx, if_pos e, List.append_nil]
      refine At.mk' [0, 1, 5, 6] (j + 1, rs) ⟨⟨hlt, h2, ?_, ?_⟩, by simp only; omega⟩ ⟨?_, rfl⟩ rfl rfl (by simp) (by simp) (by simp)
      · simp only [ho]; exact h3
      · have := congrArg (List.drop 1) h4
        simpa [List.drop_drop, Nat.add_comm] using this
      · simp only [ho]
        rw [wrap_i64 _ (by omega) (by omega)]
        rfl
  · have h := of_decide_eq_false h
    simp only at h
    obtain rfl : j = n := by omega
    have ht : l.take j = l := List.take_of_length_le (by omega)
    simp only [ht] at *
    refine And.intro (by omega) (And.intro (by omega) (And.intro ?_ ?_))
    · simp; omega
    · refine And.intro (by omega) (And.intro (by omega) ?_)
      refine eqx (K := fun r => K (cv (.slc 0 0 (others who l).length none true)) [] [.rows false 1 r, .one [.f (.int .i64 who)]]) hK ?_
      rw [List.drop_of_length_le (by simp; omega), List.append_nil, ← List.map_take, show 0 + Int.toNat ((others who l).length : Int) = (others who l).length by simp, h3]
      simp

theorem deleteNil (who : Int) (hK : K (cv .nilslc) [] [.one [.f (.int .i64 who)]]) : Does Try.prog 40 [cv .nilslc, cv (clo 0)] [.one [.f (.int .i64 who)]] K := by
  refine does Try.func40 rfl (by decide) ?_
  change Does Try.prog 50 _ _ _
  refine does Try.func50 rfl (by decide) ?_
  refine SS.loop (fun _ : Unit => True) (fun _ => [(0, cv .nilslc), (1, cv (clo 0)), (7, i64 0), (8, i64 0)]) (fun _ => [.one [.f (.int .i64 who)]]) (fun _ => 0) []
    (At.mk' [0, 1, 7, 8] () trivial ⟨rfl, rfl⟩ rfl rfl (by simp) (by simp) (by simp)) ?_
  rintro ⟨⟩ _
  refine S_r ?_
  exact hK

/-- Who is never picked starves. -/
theorem starves {who : Int} {l : List Int} {n w : Int} (hw : 0 ≤ who ∧ who < n) (hpos : 0 < (others who l).length) (h : w ≤ (others who l).length) : ¬ Fair (others who l) n w := fun hf => by
  obtain ⟨t, rfl⟩ := Int.eq_ofNat_of_zero_le hw.1
  have := hf.2.2.2 ((others (t : Int) l).length - 1) (by omega) t hw.2
  rw [gap_iff] at this
  rcases this with h1 | ⟨k, _, _, h3⟩
  · omega
  · have := List.mem_of_getElem? h3
    unfold others at this
    simp at this

theorem fairStarves (l : List Int) (_hl : ∀ x ∈ l, -9223372036854775808 ≤ x ∧ x ≤ 9223372036854775807) (n : Int) (_h1 : -9223372036854775808 ≤ n ∧ n ≤ 9223372036854775807) (who : Int) (_h2 : -9223372036854775808 ≤ who ∧ who ≤ 9223372036854775807) :
    Does Try.prog 14 [cv (.slc 0 0 l.length none false), i64 n, i64 who] [.rows true 1 (l.map rowZ)] fun v _ _ => v = bl true := by
  obtain ⟨m, hm⟩ : ∃ n, l.length = n := ⟨_, rfl⟩
  rw [hm]
  refine does Try.func14 rfl (by decide) ?_
  change Does Try.prog 22 _ _ _
  refine Does.alone 2 (picked ?_)
  refine brc_intro (fun _ => fin rfl) (fun h => ?_)
  have h := of_decide_eq_false h
  change Does Try.prog 20 _ _ _
  refine Does.alone 2 (pick _ _ (by decide) ?_)
  have g1 := pickZ_lt n (n := 16) (by decide)
  generalize pickZ n 16 = n' at *
  change Does Try.prog 20 _ _ _
  rw [wrap_i64 (1 + n') (by omega) (by omega)]
  refine Does.alone 2 (pick _ _ (by omega) ?_)
  have g2 := pickZ_lt who (n := 1 + n') (by omega)
  generalize pickZ who (1 + n') = w' at *
  change Does Try.prog 41 _ _ _
  refine Does.nil0 (fun h0 => ?_) ?_
  · subst h0
    refine Does.alone 2 (cloneZ0 ?_)
    change Does Try.prog 40 _ _ _
    refine Does.on 2 [1] _ _ (deleteNil w' ?_)
    change Does Try.prog 23 _ _ _
    refine Does.nilArg 1 (by decide) ?_
    refine Does.on 3 [2] _ _ (fairIs (ro := false) (all := []) (o := 0) (l := []) (1 + n') 1 (fun i hi => by simp at hi) (by decide) (by decide) fun b hb => ?_)
    obtain rfl : b = true := hb.2 ⟨by omega, by omega, by decide, fun i hi => by simp at hi⟩
    exact fin rfl
  refine Does.on 2 [0] _ _ (cloneZ (ro := true) (l := l) m hm (by omega) ?_)
  change Does Try.prog 40 _ _ _
  refine Does.on 3 [2, 1] _ _ (deleteWho (l := l) w' m hm (by omega) ?_)
  have hle : (others w' l).length ≤ m := by rw [← hm]; exact List.length_filter_le _ _
  have hg : ∀ i, i < (others w' l).length → (others w' l ++ List.replicate (m - (others w' l).length) 0)[0 + i]? = (others w' l)[i]? := fun i hi => by rw [Nat.zero_add, List.getElem?_append_left hi]
  refine brc_intro (fun h0 => ?_) (fun h0 => ?_)
  · have h0 : ((others w' l).length : Int) = 0 := by simpa using h0
    change Does Try.prog 23 _ _ _
    refine Does.on 3 [2] _ _ (fairIs (ro := false) (all := others w' l ++ List.replicate (m - (others w' l).length) 0) (o := 0) (l := others w' l) (1 + n') 1 hg (by omega) (by decide) fun b hb => ?_)
    obtain rfl : b = true := hb.2 ⟨by omega, by omega, by decide, fun i hi => by omega⟩
    exact fin rfl
  · have h0 : ¬ ((others w' l).length : Int) = 0 := by simpa using h0
    change Does Try.prog 23 _ _ _
    refine Does.on 3 [2] _ _ (fairIs (ro := false) (all := others w' l ++ List.replicate (m - (others w' l).length) 0) (o := 0) (l := others w' l) (1 + n') (others w' l).length hg (by omega) (by omega) fun b hb => ?_)
    obtain rfl : b = false := by
      cases b with
      | false => rfl
      | true => exact absurd (hb.1 rfl) (starves (by omega) (by omega) (Int.le_refl _))
    change Does Try.prog 23 _ _ _
    refine Does.on 3 [2] _ _ (fairIs (ro := false) (all := others w' l ++ List.replicate (m - (others w' l).length) 0) (o := 0) (l := others w' l) (1 + n') 1 hg (by omega) (by decide) fun b hb => ?_)
    obtain rfl : b = false := by
      cases b with
      | false => rfl
      | true => exact absurd (hb.1 rfl) (starves (by omega) (by omega) (by omega))
    exact fin rfl

end
end Go.Mac
