/- Who was told what when, as a map; and a point of a call among points. -/
import Derived.Test.YtlimhldkkbaohaaDoorGLinB
import Derived.Test.YtlimhldkkbaohaaDoorGMapA
open Go Go.Proofs Go.Mac
set_option maxRecDepth 100000
namespace Go.Mac

theorem endsOk_mem {calls : List (List CallZ)} : ∀ {l pre : List EvZ}, endsOk calls pre l = true → ∀ e ∈ l, e.a = 3 ∧ 0 ≤ e.t ∧ e.t < calls.length
  | [], _, _, _, h => by cases h
  | x :: l, pre, h, e, he => by
    rw [endsOk, Bool.and_eq_true] at h
    rcases List.mem_cons.1 he with rfl | he
    · have := of_decide_eq_true h.1
      exact ⟨this.1, this.2.1, this.2.2.1⟩
    · exact endsOk_mem h.2 e he

/-- All that was told, as a map. -/
structure ToldM (es : MapZ) (el : List EvZ) : Prop where
  has : ∀ key, mpHas es key = true ↔ ∃ (t k : Nat) (w : Int), key = [(t : Int), (k : Int)] ∧ (endT t el)[k]? = some w
  get : ∀ (t k : Nat) (w : Int), (endT t el)[k]? = some w → mpGet es [(t : Int), (k : Int)] = w

theorem ToldM.nil : ToldM [] [] := by
  refine ⟨fun key => ⟨fun h => (by cases h), ?_⟩, fun t k w h => by cases h⟩
  rintro ⟨t, k, w, _, h⟩
  cases h

theorem ToldM.put {es : MapZ} {el : List EvZ} (h : ToldM es el) {e : EvZ} {t : Nat} (ht : e.t = t) (clk : Nat) : ToldM (mpPut es [(t : Int), ((endT t el).length : Int)] e.w clk) (el ++ [e]) := by
  have hend : ∀ s, endT s (el ++ [e]) = if s = t then endT t el ++ [e.w] else endT s el := fun s => by
    rw [endT_snoc]
    by_cases hst : s = t
    · subst hst; rw [if_pos ht, if_pos rfl]
    · rw [if_neg (by omega), if_neg hst]
  have old : ∀ (s k : Nat) (w : Int), (endT s (el ++ [e]))[k]? = some w → (endT s el)[k]? = some w ∨ (s = t ∧ k = (endT t el).length ∧ w = e.w) := fun s k w hw => by
    rw [hend] at hw
    by_cases hst : s = t
    · subst hst
      rw [if_pos rfl] at hw
      rcases Nat.lt_or_ge k (endT s el).length with hk | hk
      · rw [List.getElem?_append_left hk] at hw
        exact .inl hw
      · have hl := (List.getElem?_eq_some_iff.1 hw).1
        rw [List.length_append] at hl
        simp only [List.length_singleton] at hl
        have hk2 : k = (endT s el).length := by omega
        subst hk2
        rw [List.getElem?_append_right (Nat.le_refl _), Nat.sub_self] at hw
        exact .inr ⟨rfl, rfl, (Option.some.inj hw).symm⟩
    · rw [if_neg hst] at hw
      exact .inl hw
  have new : ∀ (s k : Nat) (w : Int), (endT s el)[k]? = some w → (endT s (el ++ [e]))[k]? = some w := fun s k w hw => by
    rw [hend]
    by_cases hst : s = t
    · subst hst
      rw [if_pos rfl, List.getElem?_append_left (List.getElem?_eq_some_iff.1 hw).1]
      exact hw
    · rw [if_neg hst]; exact hw
  have last : (endT t (el ++ [e]))[(endT t el).length]? = some e.w := by
    rw [hend, if_pos rfl, List.getElem?_append_right (Nat.le_refl _), Nat.sub_self]
    rfl
  refine ⟨fun key => ?_, fun s k w hw => ?_⟩
  · rw [mpHas_put, Bool.or_eq_true, decide_eq_true_iff, h.has]
    constructor
    · rintro (rfl | ⟨s, k, w, rfl, hw⟩)
      · exact ⟨t, _, _, rfl, last⟩
      · exact ⟨s, k, w, rfl, new s k w hw⟩
    · rintro ⟨s, k, w, rfl, hw⟩
      rcases old s k w hw with hw | ⟨rfl, rfl, rfl⟩
      · exact .inr ⟨s, k, w, rfl, hw⟩
      · exact .inl rfl
  · rw [mpGet_put]
    rcases old s k w hw with hw2 | ⟨rfl, rfl, rfl⟩
    · rw [if_neg]
      · exact h.get s k w hw2
      · intro hk
        have h1 : (s : Int) = (t : Int) := (List.cons.inj hk).1
        have h2 : (k : Int) = ((endT t el).length : Int) := (List.cons.inj (List.cons.inj hk).2).1
        have hl := (List.getElem?_eq_some_iff.1 hw2).1
        have h1 : s = t := by omega
        subst h1
        omega
    · rw [if_pos rfl]

theorem ToldM.prev {es : MapZ} {el : List EvZ} (h : ToldM es el) {t k : Nat} (hk : k ≤ (endT t el).length) : mpGet es [(t : Int), (k : Int) - 1] = prevT (endT t el) k := by
  rw [prevT]
  by_cases h0 : k = 0
  · subst h0
    rw [if_pos rfl]
    refine mpGet_no ?_
    cases hh : mpHas es [(t : Int), ((0 : Nat) : Int) - 1] with
    | false => rfl
    | true =>
      obtain ⟨s, j, w, he, _⟩ := (h.has _).1 hh
      have := (List.cons.inj (List.cons.inj he).2).1
      omega
  · rw [if_neg h0, List.getD_eq_getElem?_getD, List.getElem?_eq_getElem (by omega)]
    have := h.get t (k - 1) _ (List.getElem?_eq_getElem (show k - 1 < (endT t el).length by omega))
    rw [show ((k - 1 : Nat) : Int) = (k : Int) - 1 by omega] at this
    exact this

theorem ToldM.has2 {es : MapZ} {el : List EvZ} (h : ToldM es el) {t k : Nat} : mpHas es [(t : Int), (k : Int)] = true ↔ k < (endT t el).length := by
  rw [h.has]
  constructor
  · rintro ⟨s, j, w, he, hw⟩
    have h1 : (t : Int) = (s : Int) := (List.cons.inj he).1
    have h2 : (k : Int) = (j : Int) := (List.cons.inj (List.cons.inj he).2).1
    have h1 : t = s := by omega
    have h2 : k = j := by omega
    subst h1 h2
    exact (List.getElem?_eq_some_iff.1 hw).1
  · intro hk
    exact ⟨t, k, _, rfl, List.getElem?_eq_getElem hk⟩

section
variable {K : AV → List Nat → List PO → Prop}

theorem keyIdx {pts : List PtZ} {t k : Int} {n : Nat} {ro nn : Bool} (hn : pts.length = n) (hb : n ≤ 1000000) (hx : ∃ x ∈ pts, x.t = t ∧ x.k = k)
    (h1 : ∀ i : Nat, K (i64 i) [] [.rows ro 4 (pts.map rowPt), .one [.f (.int .i64 t), .f (.int .i64 k)]]) :
    Does Tryd.prog 89 [cv (.slc 0 0 n none nn), cv (.func 53 [1])] [.rows ro 4 (pts.map rowPt), .one [.f (.int .i64 t), .f (.int .i64 k)]] K := by
  refine does Tryd.func89 rfl (by decide) ?_
  refine SS.loop (fun i : Nat => i ≤ n ∧ ∀ j x, j < i → pts[j]? = some x → ¬ (x.t = t ∧ x.k = k)) (fun i => [(0, cv (.slc 0 0 n none nn)), (1, cv (.func 53 [1])), (7, i64 n), (8, i64 i)]) (fun _ => [.rows ro 4 (pts.map rowPt), .one [.f (.int .i64 t), .f (.int .i64 k)]]) (fun i => n - i) []
    (At.mk' [0, 1, 7, 8] 0 ⟨Nat.zero_le _, fun j x h => by omega⟩ ⟨rfl, rfl⟩ rfl rfl (by simp) (by simp) (by simp)) ?_
  rintro i ⟨hi, hj⟩
  change i ≤ n at hi
  refine S_r ?_
  refine brc_intro (fun hlt => ?_) (fun hlt => ?_)
  · have hlt : i < n := by
      have := of_decide_eq_true hlt
      have : (i : Int) < (n : Int) := this
      omega
    obtain ⟨x, hx⟩ : ∃ x, pts[i]? = some x := ⟨_, List.getElem?_eq_getElem (by omega)⟩
    have hxa : (pts.map rowPt)[0 + Int.toNat (i : Int)]? = some (rowPt x) := by rw [Int.toNat_natCast, Nat.zero_add, List.getElem?_map, hx]; rfl
    have wr : IntKind.i64.wrap ((i : Int) + 1) = ((i + 1 : Nat) : Int) := wrap_i64 _ (by omega) (by omega)
    have next : ¬ (x.t = t ∧ x.k = k) → ∀ j y, j < i + 1 → pts[j]? = some y → ¬ (y.t = t ∧ y.k = k) := fun hne j y hj' hy => by
      rcases Nat.lt_succ_iff_lt_or_eq.1 hj' with h | rfl
      · exact hj j y h hy
      · rw [hx] at hy
        obtain rfl := Option.some.inj hy
        exact hne
    refine SS.inlR ?_
    refine at2 (a := (0 : Int) ≤ (i : Int)) (b := (i : Int) < (n : Int)) (by omega) (by omega) (rdA (rowPt x) hxa ?_)
    change Does Tryd.prog 53 _ _ _
    refine does Tryd.func53 rfl (by decide) ?_
    refine And.intro (by decide) (And.intro (by decide) ?_)
    refine brc_intro (fun ht => ?_) (fun ht => ?_)
    · refine And.intro (by decide) (And.intro (by decide) ?_)
      refine brc_intro (fun hk => ?_) (fun hk => ?_)
      · exact h1 i
      · refine At.mk' [0, 1, 7, 8] (i + 1) ⟨⟨hlt, next fun h => ?_⟩, by omega⟩ ⟨?_, rfl⟩ rfl rfl (by simp) (by simp) (by simp)
        · have hk : (x.k == k) = false := hk
          rw [h.2] at hk
          simp at hk
        · rw [wr]
    · refine At.mk' [0, 1, 7, 8] (i + 1) ⟨⟨hlt, next fun h => ?_⟩, by omega⟩ ⟨?_, rfl⟩ rfl rfl (by simp) (by simp) (by simp)
      · have ht : (x.t == t) = false := ht
        rw [h.1] at ht
        simp at ht
      · rw [wr]
  · have hlt : ¬ (i : Int) < (n : Int) := of_decide_eq_false hlt
    obtain rfl : i = n := by omega
    exfalso
    obtain ⟨x, hx, he⟩ := hx
    obtain ⟨j, hj'⟩ := List.mem_iff_getElem?.1 hx
    have := (List.getElem?_eq_some_iff.1 hj').1
    exact hj j x (by omega) hj' he

theorem hasKey {pts : List PtZ} {t k : Int} {n : Nat} {ro nn : Bool} (hn : pts.length = n) (hb : n ≤ 1000000) (hx : ∃ x ∈ pts, x.t = t ∧ x.k = k)
    (h : K (bl true) [] [.rows ro 4 (pts.map rowPt), .one [.f (.int .i64 t), .f (.int .i64 k)]]) :
    Does Tryd.prog 52 [cv (.slc 0 0 n none nn), cv (.func 53 [1])] [.rows ro 4 (pts.map rowPt), .one [.f (.int .i64 t), .f (.int .i64 k)]] K := by
  refine does Tryd.func52 rfl (by decide) ?_
  change Does Tryd.prog 89 _ _ _
  refine keyIdx hn hb hx fun i => ?_
  refine eqb (K := fun b => K (bl b) [] _) h ?_
  exact (decide_eq_true (show (i : Int) ≥ 0 by omega)).symm

end
end Go.Mac
