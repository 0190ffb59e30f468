/- The judge's law on names. -/
import Derived.Test.YteblgbclhaajpaaDoorQJudgeInv
import Derived.Test.YteblgbclhaajpaaDoorQJudgeLaw
open Go Go.Proofs Go.Mac
set_option maxRecDepth 100000
namespace Go.Mac

/-- An event of a thread that is called otherwise. -/
def renEv (n b : Nat) (e : EvZ) : EvZ := { e with t := (e.t + b) % n }
def rho (n b t : Nat) : Nat := (t + b) % n

theorem rho_lt {n b t : Nat} (hn : 1 ≤ n) : rho n b t < n := Nat.mod_lt _ hn

theorem rho_eq {n b t : Nat} (hb : b < n) (ht : t < n) : rho n b t = if t + b < n then t + b else t + b - n := by
  unfold rho
  split
  · exact Nat.mod_eq_of_lt (by assumption)
  · rw [Nat.mod_eq_sub_mod (by omega), Nat.mod_eq_of_lt (by omega)]

theorem rho_inj {n b t u : Nat} (hb : b < n) (ht : t < n) (hu : u < n) (h : rho n b t = rho n b u) : t = u := by
  rw [rho_eq hb ht, rho_eq hb hu] at h
  split at h <;> split at h <;> omega

theorem rho_onto {n b u : Nat} (hb : b < n) (hu : u < n) : ∃ t, t < n ∧ rho n b t = u := by
  rcases Nat.lt_or_ge u b with h | h
  · refine ⟨u + n - b, by omega, ?_⟩
    unfold rho
    rw [show u + n - b + b = u + n by omega, Nat.add_mod_right, Nat.mod_eq_of_lt hu]
  · refine ⟨u - b, by omega, ?_⟩
    unfold rho
    rw [show u - b + b = u by omega, Nat.mod_eq_of_lt hu]

/-- One list is the other, called otherwise. -/
structure Ren (n b : Nat) (c c' : List Int) : Prop where
  l : c.length = n
  l' : c'.length = n
  eq : ∀ t, t < n → c'.getD (rho n b t) 0 = c.getD t 0

theorem Ren.noughts (n b : Nat) : Ren n b (noughts n) (noughts n) := ⟨by simp [Mac.noughts], by simp [Mac.noughts], fun t _ => by rw [noughts_getD, noughts_getD]⟩

theorem Ren.set {n b : Nat} {c c' : List Int} (h : Ren n b c c') (hb : b < n) {t : Nat} (ht : t < n) (x : Int) : Ren n b (c.set t x) (c'.set (rho n b t) x) := by
  refine ⟨by simp [h.l], by simp [h.l'], fun u hu => ?_⟩
  have := rho_lt (n := n) (b := b) (t := t) (by omega)
  rw [getD_setZ _ _ _ _ (by rw [h.l']; exact this), getD_setZ _ _ _ _ (by rw [h.l]; exact ht), h.eq u hu]
  by_cases e : t = u
  · rw [if_pos e, if_pos (by rw [e])]
  · rw [if_neg e, if_neg fun h' => e (rho_inj hb ht hu h')]

theorem getD_mem {l : List Int} {u : Nat} (h : u < l.length) : l.getD u 0 ∈ l := by
  rw [List.getD_eq_getElem?_getD, List.getElem?_eq_getElem h]
  exact List.getElem_mem h

theorem mem_getD {l : List Int} {x : Int} (h : x ∈ l) : ∃ u, u < l.length ∧ l.getD u 0 = x := by
  obtain ⟨u, hu⟩ := List.mem_iff_getElem?.1 h
  exact ⟨u, (List.getElem?_eq_some_iff.1 hu).1, by rw [List.getD_eq_getElem?_getD, hu]; rfl⟩

theorem Ren.any {n b : Nat} {c c' : List Int} (h : Ren n b c c') (hb : b < n) (v : Int) : (c'.any fun x => decide (x < v)) = (c.any fun x => decide (x < v)) := by
  rw [Bool.eq_iff_iff, List.any_eq_true, List.any_eq_true]
  constructor
  · rintro ⟨x, hx, hxv⟩
    obtain ⟨u, hu, rfl⟩ := mem_getD hx
    obtain ⟨t, ht, rfl⟩ := rho_onto hb (by rw [h.l'] at hu; exact hu)
    rw [h.eq t ht] at hxv
    exact ⟨_, getD_mem (by rw [h.l]; exact ht), hxv⟩
  · rintro ⟨x, hx, hxv⟩
    obtain ⟨t, ht, rfl⟩ := mem_getD hx
    rw [h.l] at ht
    refine ⟨c'.getD (rho n b t) 0, getD_mem (by rw [h.l']; exact rho_lt (by omega)), ?_⟩
    rw [h.eq t ht]
    exact hxv

theorem renEv_t {n b : Nat} {e : EvZ} (h : 0 ≤ e.t) : (renEv n b e).t.toNat = rho n b e.t.toNat := by
  show ((e.t + b) % n).toNat = (e.t.toNat + b) % n
  have : e.t + (b : Int) = ((e.t.toNat + b : Nat) : Int) := by omega
  rw [this]
  omega

theorem oneZ_ren {n b : Nat} (hb : b < n) {e : EvZ} (h0 : 0 ≤ e.t) (h1 : e.t < n) {c g c' g' : List Int} (hc : Ren n b c c') (hg : Ren n b g g') :
    (oneZ (renEv n b e) c' g').1 = (oneZ e c g).1 ∧ Ren n b (oneZ e c g).2.1 (oneZ (renEv n b e) c' g').2.1 ∧ Ren n b (oneZ e c g).2.2 (oneZ (renEv n b e) c' g').2.2 := by
  have ht : e.t.toNat < n := by omega
  have e1 := renEv_t (n := n) (b := b) h0
  have e2 := hc.eq _ ht
  have e3 := hg.eq _ ht
  have ha : (renEv n b e).a = e.a := rfl
  have hv : (renEv n b e).v = e.v := rfl
  have htn : ¬ ((renEv n b e).t < 0 ∨ (renEv n b e).t ≥ c'.length) := by
    rw [hc.l']
    have := Int.emod_nonneg (e.t + b) (b := n) (by omega)
    have := Int.emod_lt_of_pos (e.t + b) (b := n) (by omega)
    show ¬ ((e.t + b) % n < 0 ∨ (e.t + b) % n ≥ n)
    omega
  have htn' : ¬ (e.t < 0 ∨ e.t ≥ c.length) := by
    rw [hc.l]
    omega
  unfold oneZ
  rw [if_neg htn, if_neg htn', ha, hv, e1, e2, e3, hc.any hb]
  split
  · exact ⟨rfl, hc, hg⟩
  split
  · split
    · exact ⟨rfl, hc, hg⟩
    · exact ⟨rfl, hc.set hb ht _, hg⟩
  split
  · exact ⟨rfl, hc, hg⟩
  split
  · exact ⟨rfl, hc, hg⟩
  · exact ⟨rfl, hc, hg.set hb ht _⟩

theorem runZ_ren {n b : Nat} (hb : b < n) : ∀ (l : List EvZ) (i : Nat) (c g c' g' : List Int), (∀ x ∈ l, 0 ≤ x.t ∧ x.t < n) → Ren n b c c' → Ren n b g g' → runZ (l.map (renEv n b)) i c' g' = runZ l i c g
  | [], _, _, _, _, _, _, _, _ => rfl
  | e :: l, i, c, g, c', g', hl, hc, hg => by
    obtain ⟨h1, h2, h3⟩ := oneZ_ren hb (hl e List.mem_cons_self).1 (hl e List.mem_cons_self).2 hc hg
    rw [List.map_cons, runZ, runZ, h1]
    rw [runZ_ren hb l (i + 1) _ _ _ _ (fun x hx => hl x (List.mem_cons_of_mem _ hx)) h2 h3]

theorem checkZ_ren {n b : Nat} (hb : b < n) {l : List EvZ} (hl : ∀ x ∈ l, 0 ≤ x.t ∧ x.t < n) : checkZ n (l.map (renEv n b)) = checkZ n l :=
  runZ_ren hb l 0 _ _ _ _ hl (Ren.noughts n b) (Ren.noughts n b)

theorem goneR_ren {n b : Nat} (hb : b < n) : ∀ (l : List EvZ) (g g' : List Int), (∀ x ∈ l, 0 ≤ x.t ∧ x.t < n) → Ren n b g g' → Ren n b (l.foldl goneStep g) ((l.map (renEv n b)).foldl goneStep g')
  | [], _, _, _, h => h
  | e :: l, g, g', hl, h => by
    rw [List.map_cons, List.foldl_cons, List.foldl_cons]
    refine goneR_ren hb l _ _ (fun x hx => hl x (List.mem_cons_of_mem _ hx)) ?_
    obtain ⟨h0, h1⟩ := hl e List.mem_cons_self
    have ht : e.t.toNat < n := by omega
    unfold goneStep
    rw [renEv_t h0, h.eq _ ht]
    show Ren n b _ (if e.a = 2 then _ else _)
    split
    · exact h.set hb ht _
    · exact h

theorem allG_ren {n b : Nat} (hb : b < n) {l : List EvZ} (hl : ∀ x ∈ l, 0 ≤ x.t ∧ x.t < n) : allG n (l.map (renEv n b)) = allG n l := by
  have h : Ren n b (goneR n l) (goneR n (l.map (renEv n b))) := goneR_ren hb l _ _ hl (Ren.noughts n b)
  obtain ⟨a1, u, hu, a2⟩ := allG_min (n := n) (by omega) l
  obtain ⟨b1, v, hv, b2⟩ := allG_min (n := n) (by omega) (l.map (renEv n b))
  obtain ⟨t, ht, rfl⟩ := rho_onto hb hv
  have c1 := a1 t ht
  have c2 := b1 (rho n b u) (rho_lt (by omega))
  rw [h.eq t ht] at b2
  rw [h.eq u hu] at c2
  omega

theorem anyR_ren (n b : Nat) (l : List EvZ) : anyR (l.map (renEv n b)) = anyR l := by
  unfold anyR
  rw [List.foldl_map]
  rfl

theorem judgeNames (l : List EvZ) (n : Int) (_hn : -9223372036854775808 ≤ n ∧ n ≤ 9223372036854775807) (b : Int) (_hb : -9223372036854775808 ≤ b ∧ b ≤ 9223372036854775807) :
    Does Tryd.prog 5 [cv (.slc 0 0 l.length none false), i64 n, i64 b] [.rows true 4 (l.map rowEv), rtH] fun v _ _ => v = bl true := by
  refine does Tryd.func5 rfl (by decide) ?_
  change Does Tryd.prog 7 _ _ _
  refine Does.on 2 [1] _ _ (judged ?_)
  refine brc_intro (fun _ => fin rfl) (fun h => ?_)
  have hl : l.length ≤ 100 := by have := of_decide_eq_false h; omega
  change Does Tryd.prog 8 _ _ _
  refine Does.alone 2 (pick n 16 (by decide) ?_)
  obtain ⟨m, hm, hm1⟩ := pick16 n
  change Does Tryd.prog 8 _ _ _
  rw [hm, wrap_i64 m (by omega) (by omega)]
  refine Does.alone 2 (pick b m (by omega) ?_)
  have hb := pickZ_lt b (n := m) (by omega)
  obtain ⟨k, hk⟩ := Int.eq_ofNat_of_zero_le hb.1
  rw [hk] at hb ⊢
  refine SS.nil 7 4 (by decide) rfl ?_
  refine SS.loop (fun p : Nat × Bool => p.1 ≤ l.length ∧ ∀ (j : Nat) (x : EvZ), j < p.1 → l[j]? = some x → 0 ≤ x.t ∧ x.t < m) (fun p => [(0, cv (.slc 0 0 l.length none false)), (1, i64 m), (2, i64 k), (7, cv (.slc 2 0 p.1 none p.2)), (27, cv (.slc 0 0 l.length none false)), (28, i64 l.length), (29, i64 p.1)])
    (fun p => [.rows true 4 (l.map rowEv), rtH, .rows false 4 (((l.take p.1).map (renEv m k)).map rowEv)]) (fun p => l.length - p.1) [2]
    (At.mk' [0, 1, 2, 7, 27, 28, 29] (0, false) ⟨by simp, fun j x hj => absurd hj (by simp)⟩ ⟨rfl, rfl⟩ rfl rfl (by simp) (by simp) (by simp)) ?_
  rintro ⟨i, nn⟩ ⟨hi, hok⟩
  change i ≤ l.length at hi
  refine S_r ?_
  refine brc_intro (fun hlt => ?_) (fun hlt => ?_)
  · have hlt : i < l.length := by
      have := of_decide_eq_true hlt
      have : (i : Int) < (l.length : Int) := this
      omega
    obtain ⟨x, hx⟩ : ∃ x, l[i]? = some x := ⟨_, List.getElem?_eq_getElem hlt⟩
    refine SS.inlR ?_
    refine at2 (a := (0 : Int) ≤ (i : Int)) (b := (i : Int) < (l.length : Int)) (by omega) (by omega) (rdA (rowEv x) (gev hx) ?_)
    refine brc_intro (fun _ => fin rfl) (fun h0 => ?_)
    refine brc_intro (fun _ => fin rfl) (fun h1 => ?_)
    have h0 : ¬ x.t < 0 := of_decide_eq_false h0
    have h1 : ¬ x.t ≥ m := of_decide_eq_false h1
    have hw : (IntKind.i64.wrap (x.t + k)).tmod m = (x.t + k) % m := by
      rw [wrap_i64 (x.t + k) (by omega) (by omega), Int.tmod_eq_emod_of_nonneg (by omega)]
    refine nonzero_intro (by omega) ?_
    refine And.intro (by simp) (Or.inl (And.intro rfl (And.intro ?_ (And.intro ?_ (And.intro ?_ ?_)))))
    · simp
      omega
    · show (i + 1) * 32 ≤ _
      omega
    · show i + 1 ≤ _
      omega
    · refine At.mk' [0, 1, 2, 7, 27, 28, 29] (i + 1, nn) ⟨⟨by show i + 1 ≤ l.length; omega, fun j y hj hy => ?_⟩, by show l.length - (i + 1) < l.length - i; omega⟩ ⟨?_, rfl⟩ ?_ rfl (by simp) (by simp) (by decide)
      · rcases Nat.lt_succ_iff_lt_or_eq.1 hj with h | rfl
        · exact hok j y h hy
        · rw [hx] at hy; cases hy; omega
      · rw [wrap_i64 (i + 1) (by omega) (by omega)]
        rfl
      · show [PO.rows true 4 (l.map rowEv), rtH, PO.rows false 4 (((l.take i).map (renEv m k)).map rowEv ++ [[.int .i64 x.w, .int .i64 x.a, .int .i64 ((IntKind.i64.wrap (x.t + k)).tmod m), .int .i64 x.v]])] = [PO.rows true 4 (l.map rowEv), rtH, PO.rows false 4 (((l.take (i + 1)).map (renEv m k)).map rowEv)]
        rw [hw, take_snoc hx, List.map_append, List.map_append]
        rfl
  · have hlt : ¬ (i : Int) < (l.length : Int) := of_decide_eq_false hlt
    obtain rfl : l.length = i := by omega
    have hall : ∀ x ∈ l, 0 ≤ x.t ∧ x.t < m := fun x hx => by
      obtain ⟨j, hj⟩ := List.mem_iff_getElem?.1 hx
      exact hok j x (List.getElem?_eq_some_iff.1 hj).1 hj
    have ht : l.take l.length = l := List.take_length
    have hkm : k < m := by omega
    have c1 := checkZ_ren hkm hall
    have c2 := allG_ren hkm hall
    have c3 := anyR_ren m k l
    change Does Tryd.prog 10 _ _ _
    refine Does.on 3 [0] _ _ (rounds (all := l) (l := l) (k := l.length) (n := m) (ro := true) (nn := false) (c := none) rfl (fun i _ => rfl) (by omega) (by omega) (fun hg => ?_) fun e i h => ?_)
    · change Does Tryd.prog 10 _ _ _
      refine Does.on 3 [2] _ _ (rounds (all := (l.take l.length).map (renEv m k)) (l := l.map (renEv m k)) (k := l.length) (n := m) (ro := false) (nn := nn) (c := none) (by simp) (fun i _ => by rw [ht]) (by omega) (by omega) (fun hg' => ?_) fun e i h => absurd (c1.symm.trans h |>.symm.trans hg) (by simp))
      rw [c2, c3]
      change Does Tryd.prog 12 _ _ _
      refine Does.alone 3 (tellNil ?_)
      change Does Tryd.prog 12 _ _ _
      refine Does.alone 3 (tellNil ?_)
      refine brc_intro (fun _ => ?_) (fun h => absurd (show (allG m l == allG m l) = false from h) (by simp))
      exact fin (show (anyR l == anyR l) = true by simp)
    · change Does Tryd.prog 10 _ _ _
      refine Does.on 4 [2] _ _ (rounds (all := (l.take l.length).map (renEv m k)) (l := l.map (renEv m k)) (k := l.length) (n := m) (ro := false) (nn := nn) (c := none) (by simp) (fun i _ => by rw [ht]) (by omega) (by omega) (fun hg' => absurd (c1.symm.trans hg' |>.symm.trans h) (by simp)) fun e' i' h' => ?_)
      have he : e' = e := by
        have := (c1.symm.trans h').symm.trans h
        simp at this
        exact this.1
      subst he
      change Does Tryd.prog 12 _ _ _
      refine Does.on 5 [1, 3] _ _ (tellAt e' i ?_)
      change Does Tryd.prog 12 _ _ _
      refine Does.on 5 [1, 4] _ _ (tellAt e' i' ?_)
      refine brc_intro (fun _ => ?_) (fun h => absurd (show (e' == e') = false from h) (by simp))
      exact fin rfl

end Go.Mac
