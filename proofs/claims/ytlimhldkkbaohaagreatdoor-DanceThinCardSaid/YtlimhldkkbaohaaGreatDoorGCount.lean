/- Texts that belong together; the first of them: How many calls of a kind there are; what was done to cells. -/
import Derived.Test.YtlimhldkkbaohaaGreatDoorGCutMade
import Derived.Test.YtlimhldkkbaohaaGreatDoorGDanceF

/- How many calls of a kind there are; what was done to cells. -/
section
open Go Go.Proofs Go.Mac
set_option maxRecDepth 100000
namespace Go.Mac

def countL (w : Int) (l : List CallZ) : Nat := (l.filter fun c => c.w == w).length
def countZ (w : Int) (ls : List (List CallZ)) : Nat := (ls.map (countL w)).sum

theorem countL_take (w : Int) (l : List CallZ) (i : Nat) (c : CallZ) (h : l[i]? = some c) : countL w (l.take (i + 1)) = countL w (l.take i) + if c.w = w then 1 else 0 := by
  rw [countL, List.take_add_one, h, List.filter_append, List.length_append, countL]
  by_cases e : c.w = w <;> simp [e]

theorem countZ_take (w : Int) (ls : List (List CallZ)) (i : Nat) (l : List CallZ) (h : ls[i]? = some l) : countZ w (ls.take (i + 1)) = countZ w (ls.take i) + countL w l := by
  rw [countZ, List.take_add_one, h, List.map_append, List.sum_append, countZ]
  simp

theorem countL_le (w : Int) (l : List CallZ) (i : Nat) : countL w (l.take i) ≤ i := by
  have := List.length_filter_le (fun c : CallZ => c.w == w) (l.take i)
  rw [List.length_take] at this
  rw [countL]; omega

section
variable {K : AV → List Nat → List PO → Prop} {m : MZ} {v : VZ}

theorem coreActs (hal : m.al.length < 1000000) (h : K (cv (.slc 9 0 m.al.length none false)) [] (machH m v ++ [.rows false 6 (m.al.map rowAct)])) :
    Does Tryz.prog 45 [cv (.ptr 0 0)] (machH m v) K := by
  refine does Tryz.func45 rfl (by decide) ?_
  have e : (List.take m.al.length (List.drop 0 (m.al.map rowAct))) = m.al.map rowAct := by rw [List.drop_zero, List.take_of_length_le]; simp
  have e2 : (m.al.map rowAct).length = m.al.length := by simp
  refine And.intro (by simp) (And.intro ?_ (And.intro ?_ ?_))
  · rw [e, e2]
    show m.al.length * 48 ≤ _
    omega
  · rw [e, e2]; omega
  · rw [e, e2]
    exact h

end
end Go.Mac
end

/- What is left in a barrier's cells in the end. -/
section
open Go Go.Proofs Go.Mac
set_option maxRecDepth 100000
namespace Go.Mac

theorem whereT_ok {c : Nat} : ∀ (Q : List Pc) (k p : Nat), whereT c Q k = some p → ∃ i s, p = k + i ∧ Q[i]? = some (.tl c s)
  | [], _, _, h => by cases h
  | x :: xs, k, p, h => by
    rw [whereT] at h
    split at h
    · rename_i hx
      refine ⟨0, ?_⟩
      cases x with
      | tl d s =>
        have : d = c := by simpa [tells] using hx
        subst this
        exact ⟨s, (Option.some.inj h).symm, rfl⟩
      | _ => cases hx
    · obtain ⟨i, s, e, hi⟩ := whereT_ok xs (k + 1) p h
      exact ⟨i + 1, s, by omega, by simpa using hi⟩

theorem wrL_ok {c : Nat} : ∀ (l : List (List Pc)) (k t p : Nat), wrL c l k = some (t, p) → ∃ i s, t = k + i ∧ i < l.length ∧ (ofL l i)[p]? = some (.tl c s)
  | [], _, _, _, h => by cases h
  | Q :: l, k, t, p, h => by
    rw [wrL] at h
    split at h
    · rename_i q hq
      obtain ⟨i, s, e, hi⟩ := whereT_ok Q 0 q hq
      obtain ⟨rfl, rfl⟩ := Prod.mk.inj (Option.some.inj h)
      exact ⟨0, s, rfl, by simp, by rw [show q = i by omega]; exact hi⟩
    · obtain ⟨i, s, e, hl, hi⟩ := wrL_ok l (k + 1) t p h
      exact ⟨i + 1, s, by omega, by simp; omega, hi⟩

section
variable {k n R nc : Nat} {A : Nat → AT} {V : Nat → Nat} {m : MZ}

/-- Of a network: all that is told is at the last round. -/
theorem net_ended {ss : List Slp} (hI : NI n R (PP k n) (fun c => wrL c (kindL k n) 0) A V ss) (he : ∀ t, t < n → (A t).l = .ended) (c : Nat) : V c = if (wrL c (kindL k n) 0).isSome = true then R else 0 := by
  cases h : wrL c (kindL k n) 0 with
  | none =>
    refine (hI.none c fun t p h2 => ?_).trans rfl
    rw [h] at h2
    cases h2
  | some q =>
    obtain ⟨t, p⟩ := q
    obtain ⟨i, s, e, hl, hi⟩ := wrL_ok (kindL k n) 0 t p h
    rw [kindL_len] at hl
    have h1 := hI.cell i hl p c s hi
    have h2 := hI.reg i hl
    rw [RegOk, he i hl] at h2
    rw [tg, he i hl, if_neg (show ¬ p < doneL _ NL.ended from Nat.not_lt_zero _)] at h1
    rw [if_pos (show (some (t, p)).isSome = true from rfl), h1, h2.1]
    rfl

/-- Of a tree: nobody is counted, all gates are at the last round. -/
theorem tree_ended {N h : Nat} {P : Nat → List Pc} {par sz : Nat → Nat} {p : Nat → Nat → Nat} {lev : Nat → Nat} {b : Nat → Nat} {ss : List Slp} (hT : TreeOk n N h P par sz p lev) (hI : TI n N R h P par sz p b A V ss) (he : ∀ t, t < n → (A t).l = .ended) :
    ∀ v, v < N → V (2 * v) = 0 ∧ V (2 * v + 1) = R := by
  have hhi : ∀ t, t < n → hiA h (fun k => sz (p t k)) (A t) = 0 := fun t ht => by rw [hiA, he t ht]
  have hb : ∀ t, t < n → b t = R := fun t ht => by
    have h1 := hI.thr t ht
    have h2 := hI.reg t ht
    rw [RegOk, he t ht] at h2
    have : feA h (A t) = 0 := by rw [feA, he t ht]
    rw [bA, this, if_neg (by decide), h2.1] at h1
    exact h1
  have hpart : ∀ v, v < N → ∃ x, x < n + N ∧ par x = v := fun v hv => by
    obtain ⟨hs, hs1⟩ := hT.size v hv
    refine Classical.byContradiction fun hne => ?_
    have h1 : rsum (n + N) (fun x => if par x = v then 1 else 0) = rsum (n + N) fun _ => 0 := rsum_cong fun y hy => if_neg fun e3 => hne ⟨y, hy, e3⟩
    rw [← hs, rsum_same, Nat.mul_zero] at h1
    omega
  have hG : ∀ d v, v < N → lev v < d → V (2 * v + 1) = R := fun d => by
    induction d with
    | zero => intro v _ h; omega
    | succ d ih =>
      intro v hv hd
      obtain ⟨x, hx, hp⟩ := hpart v hv
      have hl := (hI.low x hx (by rw [hp]; exact hv)).1
      rw [hp] at hl
      by_cases hxn : x < n
      · have h1 := hI.e0 x hxn
        have h2 := hI.reg x hxn
        rw [RegOk, he x hxn] at h2
        rw [hp, h2.1] at h1
        rw [hb x hxn] at hl
        omega
      · obtain ⟨c, rfl⟩ : ∃ c, x = n + c := ⟨x - n, by omega⟩
        have hc : c < N := by omega
        have hlev := hT.down c hc (by rw [hp]; exact hv)
        rw [hp] at hlev
        have h1 := ih c hc (by omega)
        have h2 := hI.arr c hc (by rw [hp]; exact hv) fun t ht j hj => by rw [hhi t ht] at hj; omega
        have h3 := hI.mono c hc (by rw [hp]; exact hv)
        rw [hp] at h3
        omega
  intro v hv
  refine ⟨?_, hG (lev v + 1) v hv (Nat.lt_succ_self _)⟩
  have h1 := hI.cnt v hv fun t ht j hj _ hl => by rw [he t ht] at hl; cases hl
  rw [rsum_if b par v (n + N) R fun x hx hp => ?_, ← (hT.size v hv).1, hG (lev v + 1) v hv (Nat.lt_succ_self _)] at h1
  · omega
  · by_cases hxn : x < n
    · exact hb x hxn
    · obtain ⟨c, rfl⟩ : ∃ c, x = n + c := ⟨x - n, by omega⟩
      have hc : c < N := by omega
      rw [hI.arr c hc (by rw [hp]; exact hv) fun t ht j hj => by rw [hhi t ht] at hj; omega]
      exact hG (lev c + 1) c hc (Nat.lt_succ_self _)

end

/-- What all cells have in the end. -/
def leftZ (k n R : Nat) (ms : List MoveZ) : List Int := (finish (movesZ (danceM k n R) (ms.map (pickM n)))).ws

theorem leftZ_get {k n R : Nat} (hk : 1 ≤ k ∧ k ≤ 6) (hn : 1 ≤ n ∧ n ≤ 16) (hR : R ≤ 6) (ms : List MoveZ) (hm : ms.length ≤ 900) : ∃ A V, kindI k n R A V (finish (movesZ (danceM k n R) (ms.map (pickM n)))).ss ∧ (∀ t, t < n → (A t).l = .ended) ∧ leftZ k n R ms = cellsL (kindC k n) V := by
  obtain ⟨A, V, h, he⟩ := dance_finish hk hn hR (ms.map (pickM n)) (by rw [List.length_map]; exact hm)
  exact ⟨A, V, h.inv, he, h.abs.ws⟩

section
variable {K : AV → List Nat → List PO → Prop}

theorem ball (k n R : Int) (h : K (.tup [.c (.f (.int .i64 (1 + pickZ k 6))), .c (.f (.int .i64 (1 + pickZ n 16))), .c (.f (.int .i64 (pickZ R 7)))]) [] []) : Does Tryz.prog 8 [i64 k, i64 n, i64 R] [] K := by
  have h1 := pickZ_lt k (n := 6) (by decide)
  have h2 := pickZ_lt n (n := 16) (by decide)
  rw [← wrap_i64 (1 + pickZ k 6) (by omega) (by omega), ← wrap_i64 (1 + pickZ n 16) (by omega) (by omega)] at h
  refine does Tryz.func8 rfl (by decide) ?_
  change Does Tryz.prog 27 _ _ _
  refine Does.alone 0 ?_
  refine does Tryz.func27 rfl (by decide) ?_
  change Does Tryz.prog 18 _ _ _
  refine Does.alone 0 (pick k 6 (by decide) ?_)
  change Does Tryz.prog 18 _ _ _
  refine Does.alone 0 (pick n 16 (by decide) ?_)
  change Does Tryz.prog 18 _ _ _
  refine Does.alone 0 (pick R 7 (by decide) ?_)
  exact h

end

theorem pick16b (n : Int) : ∃ m : Nat, 1 + pickZ n 16 = (m : Int) ∧ 1 ≤ m ∧ m ≤ 16 := by
  have := pickZ_lt n (n := 16) (by decide)
  exact ⟨(1 + pickZ n 16).toNat, by omega, by omega, by omega⟩

theorem pick7 (n : Int) : ∃ m : Nat, pickZ n 7 = (m : Int) ∧ m ≤ 6 := by
  have := pickZ_lt n (n := 7) (by decide)
  exact ⟨(pickZ n 7).toNat, by omega, by omega⟩

theorem static_told : ((List.range 16).all fun m => (List.range (m + 2)).all fun c => (wrL c (kindL 3 (m + 1)) 0).isSome == decide (c ≠ 0)) = true := by decide +kernel

end Go.Mac
end
