/- Lots: who is woken. -/
import Derived.Test.YtondghnbecnpiaaDoorQPark
open Go Go.Proofs Go.Mac
set_option maxRecDepth 100000
namespace Go.Mac

/-- What Wake's function has: the cell, those woken, and how many at most. -/
abbrev wH (c n : Int) (m : Nat) (nn : Bool) (out : List Int) : List PO := [.one [.f (.int .i64 c)], .one [.slc 3 0 m none nn], .one [.f (.int .i64 n)], .rows false 1 (out.map rowZ)]

section
variable {K : AV → List Nat → List PO → Prop}

theorem wake1 (x : Slp) (c n : Int) {m : Nat} {nn : Bool} {out : List Int} (hm : out.length = m) (hb : m < 1000000)
    (h1 : x.c = c ∧ (m : Int) < n → K (bl true) [3] (wH c n (m + 1) nn (out ++ [x.t]))) (h0 : ¬ (x.c = c ∧ (m : Int) < n) → K (bl false) [3] (wH c n m nn out)) :
    Does Tryd.prog 102 [.p (.agg [.f (.int .i64 x.t), .f (.int .i64 x.c)]), cv (.ptr 0 0), cv (.ptr 1 0), cv (.ptr 2 0)] (wH c n m nn out) K := by
  refine Does.moved [3] ?_
  refine does Tryd.func102 rfl (by decide) ?_
  refine brc_intro (fun h => ?_) (fun h => ?_)
  · exact ⟨noM, h0 fun e => by simp [e.1] at h⟩
  refine brc_intro (fun h' => ?_) (fun h' => ?_)
  · exact ⟨noM, h0 fun e => by simp at h'; omega⟩
  · have := h1 ⟨by simpa using h, by simpa using h'⟩
    refine And.intro (by simp) (Or.inl (And.intro rfl (And.intro (by simp; omega) (And.intro ?_ (And.intro ?_ ?_)))))
    · show (m + 1) * 8 ≤ _
      omega
    · show m + 1 ≤ _
      omega
    · refine And.intro (fun i hi => hi) ?_
      unfold wH at this
      rw [show (out ++ [x.t]).map rowZ = out.map rowZ ++ [rowZ x.t] from List.map_append] at this
      exact this

/-- Who is woken, and who sleeps on: of a cell, at most n, m of them already. -/
def wakeL (c n : Int) : Nat → List Slp → List Int × List Slp
  | _, [] => ([], [])
  | m, x :: xs => if x.c = c ∧ (m : Int) < n then (x.t :: (wakeL c n (m + 1) xs).1, (wakeL c n (m + 1) xs).2) else ((wakeL c n m xs).1, x :: (wakeL c n m xs).2)

theorem wakeL_snoc (c n : Int) (x : Slp) : ∀ (l : List Slp) (m : Nat), wakeL c n m (l ++ [x]) = if x.c = c ∧ ((m + (wakeL c n m l).1.length : Nat) : Int) < n then ((wakeL c n m l).1 ++ [x.t], (wakeL c n m l).2) else ((wakeL c n m l).1, (wakeL c n m l).2 ++ [x])
  | [], m => by
    by_cases hx : x.c = c ∧ (m : Int) < n <;> simp [wakeL, hx]
  | y :: l, m => by
    simp only [List.cons_append, wakeL]
    by_cases hy : y.c = c ∧ (m : Int) < n
    · simp only [hy, if_pos, wakeL_snoc c n x l (m + 1), and_self]
      have : m + 1 + (wakeL c n (m + 1) l).1.length = m + ((wakeL c n (m + 1) l).1.length + 1) := by omega
      simp only [this, List.length_cons]
      split <;> simp
    · simp only [hy, if_neg, wakeL_snoc c n x l m, not_false_eq_true]
      split <;> simp

theorem wakeL_take (c n : Int) (ss : List Slp) (i : Nat) (x : Slp) (h : ss[i]? = some x) :
    wakeL c n 0 (ss.take (i + 1)) = if x.c = c ∧ ((wakeL c n 0 (ss.take i)).1.length : Int) < n then ((wakeL c n 0 (ss.take i)).1 ++ [x.t], (wakeL c n 0 (ss.take i)).2) else ((wakeL c n 0 (ss.take i)).1, (wakeL c n 0 (ss.take i)).2 ++ [x]) := by
  have : ss.take (i + 1) = ss.take i ++ [x] := by rw [List.take_add_one, h]; rfl
  rw [this, wakeL_snoc]
  simp

theorem wakeL_len (c n : Int) : ∀ (l : List Slp) (m : Nat), (wakeL c n m l).1.length + (wakeL c n m l).2.length = l.length
  | [], m => by simp [wakeL]
  | y :: l, m => by
    simp only [wakeL]
    have h1 := wakeL_len c n l (m + 1)
    have h2 := wakeL_len c n l m
    split <;> simp <;> omega

/-- What DeleteFunc has: those that sleep, and what Wake's function has. -/
abbrev dH (c n : Int) (all : List Slp) (m : Nat) (nn : Bool) (out : List Int) : List PO := [.rows false 2 (all.map rowS), .one [.f (.int .i64 c)], .one [.slc 4 0 m none nn], .one [.f (.int .i64 n)], .rows false 1 (out.map rowZ)]

theorem wakeIndex {ss all : List Slp} {nn : Bool} (c n : Int) {k : Nat} {b : Bool} (hk : ss.length = k) (hn : k < 1000000) (hall : ∀ i, i < k → all[i]? = ss[i]?)
    (h1 : ∀ (i : Nat) (x : Slp), ss[i]? = some x → wakeL c n 0 (ss.take i) = ([], ss.take i) → wakeL c n 0 (ss.take (i + 1)) = ([x.t], ss.take i) → K (i64 i) [4] (dH c n all 1 b [x.t]))
    (h0 : wakeL c n 0 ss = ([], ss) → K (i64 (-1)) [4] (dH c n all 0 b [])) :
    Does Tryd.prog 93 [cv (.slc 0 0 k none nn), cv (.func 102 [1, 2, 3])] (dH c n all 0 b []) K := by
  refine Does.moved [4] ?_
  refine does Tryd.func93 rfl (by decide) ?_
  refine SS.loop (fun i : Nat => i ≤ k ∧ wakeL c n 0 (ss.take i) = ([], ss.take i)) (fun i => [(0, cv (.slc 0 0 k none nn)), (1, cv (.func 102 [1, 2, 3])), (7, i64 k), (8, i64 i)]) (fun _ => dH c n all 0 b []) (fun i => k - i) [4]
    (At.mk' [0, 1, 7, 8] 0 (by simp [wakeL]) ⟨rfl, rfl⟩ rfl rfl (by simp) (by simp) (by simp)) ?_
  rintro i ⟨hi, hj⟩
  refine S_r ?_
  refine brc_intro (fun h => ?_) (fun h => ?_)
  · have hlt : i < k := by have := of_decide_eq_true h; omega
    obtain ⟨x, hx⟩ : ∃ x, ss[i]? = some x := ⟨_, List.getElem?_eq_getElem (by omega)⟩
    have hax := (hall i hlt).trans hx
    have hw := wakeL_take c n ss i x hx
    rw [hj] at hw
    refine SS.inlR ?_
    refine at2 (by omega) (by omega) (rdA (rowS x) (by simp [hax]) ?_)
    change Does Tryd.prog 102 _ _ _
    refine Does.on 5 [1, 2, 3, 4] _ _ (wake1 (m := 0) (nn := b) (out := []) x c n rfl (by simp) (fun h' => ?_) fun h' => ?_)
    · rw [if_pos (by simpa using h')] at hw
      exact ⟨by decide, h1 i x hx hj hw⟩
    · rw [if_neg (by simpa using h')] at hw
      refine At.mk' [0, 1, 7, 8] (i + 1) ⟨⟨hlt, ?_⟩, by omega⟩ ⟨?_, rfl⟩ rfl rfl (by first | decide | simp) (by first | decide | simp) (by first | decide | simp)
      · rw [hw, List.take_add_one, hx]
        rfl
      · rw [wrap_i64 _ (by omega) (by omega)]
        rfl
  · have h := of_decide_eq_false h
    obtain rfl : k = i := by omega
    rw [List.take_of_length_le (by omega)] at hj
    exact ⟨by decide, h0 hj⟩

theorem wakeDelete {ss ex : List Slp} {nn : Bool} (c n : Int) {k : Nat} {b : Bool} (hk : ss.length = k) (hn : k < 1000000) (hex : ex ≠ [] → nn = true)
    (h : ∀ (nn' b' : Bool) (ex' : List Slp), (ex' ≠ [] → nn' = true) → K (cv (.slc 0 0 (wakeL c n 0 ss).2.length none nn')) [4] (dH c n ((wakeL c n 0 ss).2 ++ ex') (wakeL c n 0 ss).1.length b' (wakeL c n 0 ss).1)) :
    Does Tryd.prog 101 [cv (.slc 0 0 k none nn), cv (.func 102 [1, 2, 3])] (dH c n (ss ++ ex) 0 b []) K := by
  refine Does.moved [4] ?_
  refine does Tryd.func101 rfl (by decide) ?_
  change Does Tryd.prog 93 _ _ _
  refine wakeIndex (ss := ss) c n hk hn (fun i hi => List.getElem?_append_left (by omega)) (fun i x hx h1 h2 => ?_) fun h0 => ?_
  · have hi := (List.getElem?_eq_some_iff.1 hx).1
    refine SS.loop (fun p : Nat × List Slp => p.1 ≤ k ∧ (wakeL c n 0 (ss.take p.1)).2.length + p.2.length = p.1 ∧ 1 ≤ p.2.length)
      (fun p => [(0, cv (.slc 0 0 k none nn)), (1, cv (.func 102 [1, 2, 3])), (5, i64 (wakeL c n 0 (ss.take p.1)).2.length), (6, i64 p.1)])
      (fun p => dH c n ((wakeL c n 0 (ss.take p.1)).2 ++ p.2 ++ (ss.drop p.1 ++ ex)) (wakeL c n 0 (ss.take p.1)).1.length b (wakeL c n 0 (ss.take p.1)).1) (fun p => k - p.1) [4]
      (At.mk' [0, 1, 5, 6] (i + 1, [x]) ⟨by show i + 1 ≤ k; omega, by rw [h2]; simp; omega, by simp⟩ ⟨?_, rfl⟩ ?_ rfl (by simp) (by first | decide | simp) (by first | decide | simp)) ?_
    · simp only [h2, List.length_take]
      have : min i ss.length = i := by omega
      rw [this, wrap_i64 _ (by omega) (by omega)]
      rfl
    · show dH c n (ss ++ ex) 1 b [x.t] = dH c n ((wakeL c n 0 (ss.take (i + 1))).2 ++ [x] ++ (ss.drop (i + 1) ++ ex)) (wakeL c n 0 (ss.take (i + 1))).1.length b (wakeL c n 0 (ss.take (i + 1))).1
      rw [h2]
      have : ss ++ ex = ss.take i ++ [x] ++ (ss.drop (i + 1) ++ ex) := by
        have h3 : ss.drop i = x :: ss.drop (i + 1) := by
          rw [List.drop_eq_getElem_cons hi]
          congr 1
          exact (List.getElem?_eq_some_iff.1 hx).2
        conv => lhs; rw [← List.take_append_drop i ss, h3]
        simp
      rw [this]
      rfl
    clear h1 h2 hx hi i x
    rintro ⟨j, junk⟩ ⟨hj, hjl, hj1⟩
    change j ≤ k at hj
    change (wakeL c n 0 (ss.take j)).2.length + junk.length = j at hjl
    change 1 ≤ junk.length at hj1
    refine S_r ?_
    refine brc_intro (fun hlt => ?_) (fun hlt => ?_)
    · have hlt : j < k := by
        have := of_decide_eq_true hlt
        have : (j : Int) < k := this
        omega
      obtain ⟨x, hx⟩ : ∃ x, ss[j]? = some x := ⟨_, List.getElem?_eq_getElem (by omega)⟩
      have h3 : ss.drop j = x :: ss.drop (j + 1) := by
        rw [List.drop_eq_getElem_cons (by omega)]
        congr 1
        exact (List.getElem?_eq_some_iff.1 hx).2
      have hw := wakeL_take c n ss j x hx
      have hax : ((wakeL c n 0 (ss.take j)).2 ++ junk ++ (ss.drop j ++ ex))[j]? = some x := by
        rw [List.getElem?_append_right (by simp; omega), h3]
        simp [hjl]
      refine SS.inlR ?_
      refine at2 (by show (0 : Int) ≤ (j : Int); omega) (by show (j : Int) < (k : Int); omega) (rdA (rowS x) (gm hax) ?_)
      change Does Tryd.prog 102 _ _ _
      have hol := wakeL_len c n (ss.take j) 0
      rw [List.length_take] at hol
      refine Does.on 6 [1, 2, 3, 4] _ _ (wake1 (m := (wakeL c n 0 (ss.take j)).1.length) (nn := b) (out := (wakeL c n 0 (ss.take j)).1) x c n rfl (by omega) (fun h' => ?_) fun h' => ?_)
      · rw [if_pos h'] at hw
        refine At.mk' [0, 1, 5, 6] (j + 1, junk ++ [x]) ⟨⟨by show j + 1 ≤ k; omega, by show (wakeL c n 0 (ss.take (j + 1))).2.length + (junk ++ [x]).length = j + 1; rw [hw]; simp; omega, by simp⟩, by show k - (j + 1) < k - j; omega⟩ ⟨?_, rfl⟩ ?_ rfl (by simp) (by first | decide | simp) (by first | decide | simp)
        · simp only [hw]
          rw [wrap_i64 _ (by omega) (by omega)]
          rfl
        · show dH c n _ ((wakeL c n 0 (ss.take j)).1.length + 1) b ((wakeL c n 0 (ss.take j)).1 ++ [x.t]) = dH c n ((wakeL c n 0 (ss.take (j + 1))).2 ++ (junk ++ [x]) ++ (ss.drop (j + 1) ++ ex)) (wakeL c n 0 (ss.take (j + 1))).1.length b (wakeL c n 0 (ss.take (j + 1))).1
          rw [hw, h3]
          simp
      · rw [if_neg h'] at hw
        refine at2 (by omega) (by show ((wakeL c n 0 (ss.take j)).2.length : Int) < (k : Int); omega) ?_
        obtain ⟨y, junk, rfl⟩ : ∃ y l, junk = y :: l := by
          cases junk with
          | nil => simp at hj1
          | cons y l => exact ⟨y, l, rfl⟩
        have hby : ((wakeL c n 0 (ss.take j)).2 ++ (y :: junk) ++ (ss.drop j ++ ex))[(wakeL c n 0 (ss.take j)).2.length]? = some y := by simp
        refine wr1 (rowS y) (gm hby) ?_
        refine At.mk' [0, 1, 5, 6] (j + 1, junk ++ [x]) ⟨⟨by show j + 1 ≤ k; omega, by show (wakeL c n 0 (ss.take (j + 1))).2.length + (junk ++ [x]).length = j + 1; rw [hw]; simp at hjl ⊢; omega, by simp⟩, by show k - (j + 1) < k - j; omega⟩ ⟨?_, rfl⟩ ?_ rfl (by simp) (by first | decide | simp) (by first | decide | simp)
        · simp only [hw]
          rw [wrap_i64 _ (by omega) (by omega), wrap_i64 _ (by omega) (by omega), List.length_append]
          rfl
        · have hset : (((wakeL c n 0 (ss.take j)).2 ++ (y :: junk) ++ (ss.drop j ++ ex)).map rowS).set (0 + ((wakeL c n 0 (ss.take j)).2.length : Int).toNat) (rowS x) = ((wakeL c n 0 (ss.take j)).2 ++ [x] ++ (junk ++ [x]) ++ (ss.drop (j + 1) ++ ex)).map rowS := by
            rw [h3, Nat.zero_add, Int.toNat_natCast]
            simp
          show PO.rows false 2 ((((wakeL c n 0 (ss.take j)).2 ++ (y :: junk) ++ (ss.drop j ++ ex)).map rowS).set (0 + ((wakeL c n 0 (ss.take j)).2.length : Int).toNat) (rowS x)) :: _ = dH c n ((wakeL c n 0 (ss.take (j + 1))).2 ++ (junk ++ [x]) ++ (ss.drop (j + 1) ++ ex)) (wakeL c n 0 (ss.take (j + 1))).1.length b (wakeL c n 0 (ss.take (j + 1))).1
          rw [hset, hw]
          rfl
    · have hlt : ¬ (j : Int) < (k : Int) := of_decide_eq_false hlt
      obtain rfl : k = j := by omega
      have hnn : (nn || Nat.blt 0 k) = true := by
        have : Nat.blt 0 k = true := by simp [Nat.blt]; omega
        rw [this, Bool.or_true]
      refine Or.inl (And.intro (by omega) (And.intro (by show ((wakeL c n 0 (ss.take k)).2.length : Int) ≤ (k : Int); omega) ?_))
      have ht : ss.take k = ss := List.take_of_length_le (by omega)
      have h := h (nn || Nat.blt 0 k) b (List.replicate junk.length (⟨0, 0⟩ : Slp) ++ ex) (fun _ => hnn)
      have hd : ss.drop k = [] := List.drop_eq_nil_iff.2 (by omega)
      have hr : ((wakeL c n 0 ss).2 ++ (List.replicate junk.length (⟨0, 0⟩ : Slp) ++ ex)).map rowS = (((wakeL c n 0 (ss.take k)).2 ++ junk ++ (ss.drop k ++ ex)).map rowS).take (0 + ((wakeL c n 0 (ss.take k)).2.length : Int).toNat) ++
          List.replicate (k - ((wakeL c n 0 (ss.take k)).2.length : Int).toNat) [.int .i64 0, .int .i64 0] ++ (((wakeL c n 0 (ss.take k)).2 ++ junk ++ (ss.drop k ++ ex)).map rowS).drop (0 + ((wakeL c n 0 (ss.take k)).2.length : Int).toNat + (k - ((wakeL c n 0 (ss.take k)).2.length : Int).toNat)) := by
        rw [ht] at hjl ⊢
        have e1 : k - ((wakeL c n 0 ss).2.length : Int).toNat = junk.length := by omega
        rw [hd, e1, Nat.zero_add, Int.toNat_natCast, List.nil_append, ← List.map_take, ← List.map_drop, List.append_assoc (wakeL c n 0 ss).2 junk ex, List.take_left, ← List.drop_drop, List.drop_left, List.drop_left]
        simp
      refine And.intro ?_ ?_
      · show (0 + ((wakeL c n 0 (ss.take k)).2.length : Int).toNat) + (k - ((wakeL c n 0 (ss.take k)).2.length : Int).toNat) ≤ (((wakeL c n 0 (ss.take k)).2 ++ junk ++ (ss.drop k ++ ex)).map rowS).length
        simp only [List.length_map, List.length_append]
        omega
      refine Or.inl (And.intro (by omega) (And.intro (by show ((wakeL c n 0 (ss.take k)).2.length : Int) ≤ (k : Int); omega) ?_))
      refine And.intro (by decide) ?_
      rw [dH, hr] at h
      simp only [ht] at h ⊢
      exact h
  · have := h nn b ex hex
    rw [h0] at this
    refine ⟨by decide, ?_⟩
    subst hk
    exact this

variable {n : Int} {k : Nat} {nn : Bool} {ss ex : List Slp}

theorem lotWake (c w : Int) {out : List Int} {kept : List Slp} (hw : wakeL c w 0 ss = (out, kept)) (hk : ss.length = k) (hn : k < 1000000) (hex : ex ≠ [] → nn = true)
    (h : ∀ (nn' b : Bool) (ex' : List Slp), (ex' ≠ [] → nn' = true) → K (cv (.slc 5 0 out.length none b)) [] (lotH n kept.length nn' kept ex' ++ [.one [.f (.int .i64 c)], .one [.f (.int .i64 w)], .one [.slc 5 0 out.length none b], .rows false 1 (out.map rowZ)])) :
    Does Tryd.prog 96 [cv (.ptr 0 0), i64 c, i64 w] (lotH n k nn ss ex) K := by
  refine does Tryd.func96 rfl (by decide) ?_
  change Does Tryd.prog 101 _ _ _
  refine Does.nilH 4 0 1 (by decide) rfl rfl ?_
  refine Does.on 6 [1, 2, 4, 3, 5] _ _ (wakeDelete c w hk hn hex fun nn' b ex' he => ?_)
  rw [hw]
  exact h nn' b ex' he

end
end Go.Mac
