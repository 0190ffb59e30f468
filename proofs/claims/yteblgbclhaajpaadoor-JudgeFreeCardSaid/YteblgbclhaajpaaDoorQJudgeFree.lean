/- The judge's law on any order. -/
import Derived.Test.YteblgbclhaajpaaDoorQTurn
import Derived.Test.YteblgbclhaajpaaDoorQJudgeLaw
open Go Go.Proofs Go.Mac
set_option maxRecDepth 100000
namespace Go.Mac

abbrev rep (n : Nat) (v : Int) : List Int := List.replicate n v
abbrev blk (what v : Int) (p : List Int) : List EvZ := p.map fun t => ⟨0, what, t, v⟩

theorem rep_getD {n u : Nat} (v : Int) (hu : u < n) : (rep n v).getD u 0 = v := by
  rw [List.getD_eq_getElem?_getD, List.getElem?_replicate, if_pos hu]
  rfl

theorem mem_getDx {l : List Int} {x : Int} (h : x ∈ l) : ∃ u, u < l.length ∧ l.getD u 0 = x := by
  obtain ⟨u, hu⟩ := List.mem_iff_getElem?.1 h
  exact ⟨u, (List.getElem?_eq_some_iff.1 hu).1, by rw [List.getD_eq_getElem?_getD, hu]; rfl⟩

theorem rep_of {n : Nat} {v : Int} {l : List Int} (hl : l.length = n) (h : ∀ u, u < n → l.getD u 0 = v) : l = rep n v := by
  refine List.eq_replicate_iff.2 ⟨hl, fun x hx => ?_⟩
  obtain ⟨u, hu, rfl⟩ := mem_getDx hx
  exact h u (by omega)

theorem came_block {n : Nat} {v : Int} : ∀ (p : List Int) (c g : List Int) (i : Nat) (rest : List EvZ), c.length = n → p.Nodup → (∀ t ∈ p, 0 ≤ t ∧ t < n ∧ c.getD t.toNat 0 = v - 1 ∧ g.getD t.toNat 0 = v - 1) →
    ∃ c', c'.length = n ∧ (∀ u, u < n → c'.getD u 0 = if (u : Int) ∈ p then v else c.getD u 0) ∧ runZ (blk 1 v p ++ rest) i c g = runZ rest (i + p.length) c' g
  | [], c, g, i, rest, hc, _, _ => ⟨c, hc, fun u _ => by simp, rfl⟩
  | t :: p, c, g, i, rest, hc, hnd, hp => by
    obtain ⟨t0, t1, h1, h2⟩ := hp t List.mem_cons_self
    rw [List.nodup_cons] at hnd
    have ho : oneZ ⟨0, 1, t, v⟩ c g = (0, c.set t.toNat v, g) := by
      unfold oneZ
      rw [if_neg (by simp), if_neg (by rw [hc]; show ¬ (t < 0 ∨ t ≥ n); omega), if_pos rfl]
      show (if c.getD t.toNat 0 ≠ g.getD t.toNat 0 ∨ v ≠ c.getD t.toNat 0 + 1 then _ else _) = _
      rw [if_neg (by omega), h1, show v - 1 + 1 = v by omega]
    obtain ⟨c', hc', hg', hr⟩ := came_block (n := n) p (c.set t.toNat v) g (i + 1) rest (by simp [hc]) hnd.2 fun u hu => by
      obtain ⟨u0, u1, k1, k2⟩ := hp u (List.mem_cons_of_mem _ hu)
      refine ⟨u0, u1, ?_, k2⟩
      rw [getD_setZ _ _ _ _ (by omega), if_neg]
      · exact k1
      · intro e
        have : t = u := by omega
        subst this
        exact hnd.1 hu
    refine ⟨c', hc', fun u hu => ?_, ?_⟩
    · rw [hg' u hu, getD_setZ _ _ _ _ (by omega)]
      by_cases e : t.toNat = u
      · rw [if_pos (show (u : Int) ∈ t :: p by rw [show (u : Int) = t by omega]; exact List.mem_cons_self)]
        split <;> simp
      · rw [if_neg e]
        have : (u : Int) ≠ t := by omega
        simp [this]
    · show runZ (⟨0, 1, t, v⟩ :: (blk 1 v p ++ rest)) i c g = _
      rw [runZ, ho, if_pos rfl]
      show runZ (blk 1 v p ++ rest) (i + 1) (c.set t.toNat v) g = _
      rw [hr, List.length_cons, show i + 1 + p.length = i + (p.length + 1) by omega]

theorem gone_block {n : Nat} {v : Int} {c : List Int} (hc : c.length = n) (hcv : ∀ u, u < n → c.getD u 0 = v) : ∀ (p : List Int) (g : List Int) (i : Nat) (rest : List EvZ), g.length = n → p.Nodup → (∀ t ∈ p, 0 ≤ t ∧ t < n ∧ g.getD t.toNat 0 = v - 1) →
    ∃ g', g'.length = n ∧ (∀ u, u < n → g'.getD u 0 = if (u : Int) ∈ p then v else g.getD u 0) ∧ runZ (blk 2 v p ++ rest) i c g = runZ rest (i + p.length) c g' ∧ (blk 2 v p).foldl goneStep g = g'
  | [], g, i, rest, hg, _, _ => ⟨g, hg, fun u _ => by simp, rfl, rfl⟩
  | t :: p, g, i, rest, hg, hnd, hp => by
    obtain ⟨t0, t1, h2⟩ := hp t List.mem_cons_self
    rw [List.nodup_cons] at hnd
    have h1 := hcv t.toNat (by omega)
    have hany : (c.any fun x => decide (x < v)) = false := by
      rw [List.any_eq_false]
      intro x hx
      rw [rep_of hc hcv] at hx
      have := List.eq_of_mem_replicate hx
      simp [this]
    have ho : oneZ ⟨0, 2, t, v⟩ c g = (0, c, g.set t.toNat v) := by
      unfold oneZ
      rw [if_neg (by simp), if_neg (by rw [hc]; show ¬ (t < 0 ∨ t ≥ n); omega), if_neg (by simp)]
      show (if c.getD t.toNat 0 = g.getD t.toNat 0 ∨ v ≠ c.getD t.toNat 0 then _ else if (c.any fun x => decide (x < v)) = true then _ else _) = _
      rw [if_neg (by omega), hany, if_neg (by simp)]
      show (0, c, g.set t.toNat (g.getD t.toNat 0 + 1)) = _
      rw [h2, show v - 1 + 1 = v by omega]
    obtain ⟨g', hg', hh', hr, hf⟩ := gone_block hc hcv p (g.set t.toNat v) (i + 1) rest (by simp [hg]) hnd.2 fun u hu => by
      obtain ⟨u0, u1, k2⟩ := hp u (List.mem_cons_of_mem _ hu)
      refine ⟨u0, u1, ?_⟩
      rw [getD_setZ _ _ _ _ (by omega), if_neg]
      · exact k2
      · intro e
        have : t = u := by omega
        subst this
        exact hnd.1 hu
    refine ⟨g', hg', fun u hu => ?_, ?_, ?_⟩
    · rw [hh' u hu, getD_setZ _ _ _ _ (by omega)]
      by_cases e : t.toNat = u
      · rw [if_pos (show (u : Int) ∈ t :: p by rw [show (u : Int) = t by omega]; exact List.mem_cons_self)]
        split <;> simp
      · rw [if_neg e]
        have : (u : Int) ≠ t := by omega
        simp [this]
    · show runZ (⟨0, 2, t, v⟩ :: (blk 2 v p ++ rest)) i c g = _
      rw [runZ, ho, if_pos rfl]
      show runZ (blk 2 v p ++ rest) (i + 1) c (g.set t.toNat v) = _
      rw [hr, List.length_cons, show i + 1 + p.length = i + (p.length + 1) by omega]
    · show (blk 2 v p).foldl goneStep (goneStep g ⟨0, 2, t, v⟩) = g'
      rw [goneStep, if_pos rfl]
      show (blk 2 v p).foldl goneStep (g.set t.toNat (g.getD t.toNat 0 + 1)) = g'
      rw [h2, show v - 1 + 1 = v by omega]
      exact hf

theorem blk_gone (v : Int) : ∀ (p : List Int) (g : List Int), (blk 1 v p).foldl goneStep g = g
  | [], g => rfl
  | t :: p, g => by
    show (blk 1 v p).foldl goneStep (goneStep g ⟨0, 1, t, v⟩) = g
    rw [goneStep, if_neg (by simp), blk_gone v p g]

theorem blk_any (what v : Int) : ∀ (p : List Int) (a : Int), a ≤ v → (p ≠ [] ∨ a = v) → (blk what v p).foldl anyStep a = v
  | [], a, _, h => by
    rcases h with h | h
    · exact absurd rfl h
    · exact h
  | t :: p, a, ha, _ => by
    show (blk what v p).foldl anyStep (anyStep a ⟨0, what, t, v⟩) = v
    have : anyStep a ⟨0, what, t, v⟩ = v := by
      unfold anyStep
      show (if v > a then v else a) = v
      split <;> omega
    rw [this]
    exact blk_any what v p v (Int.le_refl _) (.inr rfl)

/-- So many rounds, and all is right. -/
structure GoodL (n : Nat) (r : Nat) (l : List EvZ) : Prop where
  run : ∀ rest i, runZ (l ++ rest) i (noughts n) (noughts n) = runZ rest (i + l.length) (rep n r) (rep n r)
  gone : goneR n l = rep n r
  any : anyR l = r
  len : l.length = 2 * n * r

theorem GoodL.begin (n : Nat) : GoodL n 0 [] := ⟨fun _ _ => rfl, rfl, rfl, rfl⟩

theorem upTo_nodup (n : Nat) : (upTo n).Nodup := by
  unfold upTo
  exact List.Pairwise.map Int.ofNat (fun a b h h' => h (Int.ofNat.inj h')) List.nodup_range

theorem GoodL.more {n r : Nat} {l : List EvZ} (hn : 1 ≤ n) (h : GoodL n r l) {p q : List Int} (hp : p.Perm (upTo n)) (hq : q.Perm (upTo n)) : GoodL n (r + 1) (l ++ blk 1 (r + 1 : Nat) p ++ blk 2 (r + 1 : Nat) q) := by
  have pm : ∀ t ∈ p, 0 ≤ t ∧ t < n := fun t ht => upTo_mem (hp.mem_iff.1 ht)
  have qm : ∀ t ∈ q, 0 ≤ t ∧ t < n := fun t ht => upTo_mem (hq.mem_iff.1 ht)
  have pn := hp.nodup_iff.2 (upTo_nodup n)
  have qn := hq.nodup_iff.2 (upTo_nodup n)
  have pu : ∀ u, u < n → (u : Int) ∈ p := fun u hu => hp.mem_iff.2 (List.mem_map.2 ⟨u, List.mem_range.2 hu, rfl⟩)
  have qu : ∀ u, u < n → (u : Int) ∈ q := fun u hu => hq.mem_iff.2 (List.mem_map.2 ⟨u, List.mem_range.2 hu, rfl⟩)
  have pl : p.length = n := hp.length_eq.trans (upTo_len n)
  have ql : q.length = n := hq.length_eq.trans (upTo_len n)
  have rl : (rep n (r : Int)).length = n := by simp
  have hv : ((r + 1 : Nat) : Int) - 1 = r := by omega
  have key : ∀ rest i, runZ (blk 1 (r + 1 : Nat) p ++ (blk 2 (r + 1 : Nat) q ++ rest)) i (rep n r) (rep n r) = runZ rest (i + n + n) (rep n (r + 1 : Nat)) (rep n (r + 1 : Nat)) ∧ (blk 2 (r + 1 : Nat) q).foldl goneStep (rep n r) = rep n (r + 1 : Nat) := fun rest i => by
    obtain ⟨c', c1, c2, c3⟩ := came_block (n := n) (v := (r + 1 : Nat)) p (rep n r) (rep n r) i (blk 2 (r + 1 : Nat) q ++ rest) rl pn fun t ht => by
      obtain ⟨a, b⟩ := pm t ht
      rw [rep_getD _ (by omega), hv]
      exact ⟨a, b, rfl, rfl⟩
    have c4 : ∀ u, u < n → c'.getD u 0 = ((r + 1 : Nat) : Int) := fun u hu => by rw [c2 u hu, if_pos (pu u hu)]
    obtain ⟨g', g1, g2, g3, g4⟩ := gone_block (n := n) (v := (r + 1 : Nat)) c1 c4 q (rep n r) (i + p.length) rest rl qn fun t ht => by
      obtain ⟨a, b⟩ := qm t ht
      rw [rep_getD _ (by omega), hv]
      exact ⟨a, b, rfl⟩
    have g5 : ∀ u, u < n → g'.getD u 0 = ((r + 1 : Nat) : Int) := fun u hu => by rw [g2 u hu, if_pos (qu u hu)]
    rw [c3, g3, g4, rep_of c1 c4, rep_of g1 g5, pl, ql]
    exact ⟨rfl, rfl⟩
  refine ⟨fun rest i => ?_, ?_, ?_, ?_⟩
  · rw [List.append_assoc, List.append_assoc, h.run, (key rest _).1]
    congr 1
    simp [pl, ql]
    omega
  · have := h.gone
    unfold goneR at this ⊢
    rw [List.foldl_append, List.foldl_append, this, blk_gone, (key [] 0).2]
  · have := h.any
    unfold anyR at this ⊢
    rw [List.foldl_append, List.foldl_append, this, blk_any 1 (r + 1 : Nat) p r (by omega) (.inl fun e => by rw [e] at pl; simp at pl; omega), blk_any 2 (r + 1 : Nat) q _ (Int.le_refl _) (.inr rfl)]
  · simp [h.len, pl, ql, Nat.mul_add]
    omega

theorem GoodL.check {n r : Nat} {l : List EvZ} (h : GoodL n r l) : checkZ n l = none := by
  have := h.run [] 0
  rw [List.append_nil] at this
  exact this

theorem GoodL.all {n r : Nat} {l : List EvZ} (hn : 1 ≤ n) (h : GoodL n r l) : allG n l = r := by
  obtain ⟨_, u, hu, e⟩ := allG_min (n := n) hn l
  rw [e, h.gone, rep_getD _ hu]

theorem judgeFree (n : Int) (_hn : -9223372036854775808 ≤ n ∧ n ≤ 9223372036854775807) (r : Int) (_hr : -9223372036854775808 ≤ r ∧ r ≤ 9223372036854775807) (s : Int) (_hs : 0 ≤ s ∧ s < 18446744073709551616) :
    Does Tryd.prog 3 [i64 n, i64 r, fcv (.int .u64 s)] [rtH] fun v _ _ => v = bl true := by
  refine does Tryd.func3 rfl (by decide) ?_
  change Does Tryd.prog 7 _ _ _
  refine Does.on 3 [0] _ _ (judged ?_)
  change Does Tryd.prog 8 _ _ _
  refine Does.alone 3 (pick n 16 (by decide) ?_)
  obtain ⟨m, hm, hm1⟩ := pick16 n
  change Does Tryd.prog 8 _ _ _
  refine Does.alone 3 (pick r 5 (by decide) ?_)
  have hr := pickZ_lt r (n := 5) (by decide)
  obtain ⟨k, hk⟩ := Int.eq_ofNat_of_zero_le hr.1
  rw [hk] at hr ⊢
  rw [hm, wrap_i64 m (by omega) (by omega)]
  refine SS.nilH 3 0 4 (by decide) rfl rfl ?_
  refine SS.loop (fun p : Nat × Int × Bool × List EvZ => p.1 ≤ k ∧ GoodL m p.1 p.2.2.2) (fun p => [(1, i64 k), (3, cv (.ptr 1 0)), (7, cv (.ptr 3 0)), (8, cv (.func 9 [1, 2, 3])), (9, i64 (p.1 + 1 : Nat))])
    (fun p => [rtH, .one [.f (.int .i64 m)], .one [.f (.int .u64 p.2.1)], .one [.slc 4 0 p.2.2.2.length none p.2.2.1], .rows false 4 (p.2.2.2.map rowEv)]) (fun p => k - p.1) [4]
    (At.mk' [1, 3, 7, 8, 9] (0, s, false, []) ⟨by simp, GoodL.begin m⟩ ⟨rfl, rfl⟩ rfl rfl (by simp) (by simp) (by simp)) ?_
  rintro ⟨i, s, nn, l⟩ ⟨hi, hg⟩
  change i ≤ k at hi
  change GoodL m i l at hg
  have hl := hg.len
  have hlb : l.length ≤ 200 := by
    have : 2 * m * i ≤ 2 * 16 * 5 := Nat.mul_le_mul (by omega) (by omega)
    omega
  refine S_r ?_
  refine brc_intro (fun hlt => ?_) (fun hlt => ?_)
  · have hlt : i < k := by
      have := of_decide_eq_true hlt
      have : ((i + 1 : Nat) : Int) ≤ (k : Int) := this
      omega
    change Does Tryd.prog 9 _ _ _
    refine Does.on 5 [1, 2, 3, 4] _ _ (turn (n := m) (s := s) (nn := nn) (l := l) 1 (i + 1 : Nat) hm1 rfl (by omega) fun s1 n1 p hp => ?_)
    have pl : p.length = m := hp.length_eq.trans (upTo_len m)
    change Does Tryd.prog 9 _ _ _
    refine Does.on 5 [1, 2, 3, 4] _ _ (turn (n := m) (s := s1) (k := l.length + m) (nn := n1) (l := l ++ blk 1 (i + 1 : Nat) p) 2 (i + 1 : Nat) hm1 (by simp [pl]) (by omega) fun s2 n2 q hq => ?_)
    have ql : q.length = m := hq.length_eq.trans (upTo_len m)
    have hg' := hg.more (by omega) hp hq
    refine At.mk' [1, 3, 7, 8, 9] (i + 1, s2, n2, l ++ blk 1 (i + 1 : Nat) p ++ blk 2 (i + 1 : Nat) q) ⟨⟨by show i + 1 ≤ k; omega, hg'⟩, by show k - (i + 1) < k - i; omega⟩ ⟨?_, rfl⟩ ?_ rfl (by simp) (by simp) (by decide)
    · rw [wrap_i64 (((i + 1 : Nat) : Int) + 1) (by omega) (by omega)]
      rfl
    · have e : (l ++ blk 1 (i + 1 : Nat) p ++ blk 2 (i + 1 : Nat) q).length = l.length + m + m := by simp [pl, ql, Nat.add_assoc]
      show [rtH, .one [.f (.int .i64 m)], .one [.f (.int .u64 s2)], .one [.slc 4 0 (l.length + m + m) none n2], .rows false 4 ((l ++ blk 1 (i + 1 : Nat) p ++ blk 2 (i + 1 : Nat) q).map rowEv)] = [rtH, .one [.f (.int .i64 m)], .one [.f (.int .u64 s2)], .one [.slc 4 0 (l ++ blk 1 (i + 1 : Nat) p ++ blk 2 (i + 1 : Nat) q).length none n2], .rows false 4 ((l ++ blk 1 (i + 1 : Nat) p ++ blk 2 (i + 1 : Nat) q).map rowEv)]
      rw [e]
  · have hlt : ¬ ((i + 1 : Nat) : Int) ≤ (k : Int) := of_decide_eq_false hlt
    obtain rfl : k = i := by omega
    change Does Tryd.prog 10 _ _ _
    refine Does.on 5 [4] _ _ (rounds (all := l) (l := l) (k := l.length) (n := m) (ro := false) (nn := nn) (c := none) rfl (fun i _ => rfl) hm1 (by omega) (fun hok => ?_) fun e i h => absurd (hg.check.symm.trans h) (by simp))
    rw [hg.all (by omega), hg.any]
    refine brc_intro (fun _ => ?_) (fun h => absurd (show ((k : Int) == (k : Int)) = false from h) (by simp))
    exact fin (show ((k : Int) == (k : Int)) = true by simp)

end Go.Mac
