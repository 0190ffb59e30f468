/- Texts that belong together; the first of them: Instructions, moves, and the rows in which they lie. -/
import Derived.Test.YtlimhldkkbaohaaGreatDoorProg
import Derived.Test.YtlimhldkkbaohaaGreatDoorMacC

/- Instructions, moves, and the rows in which they lie. -/
section
open Go Go.Proofs Go.Mac
namespace Go.Mac

structure InsZ where
  op : Int
  a : Int
  b : Int
  c : Int
  d : Int

structure MoveZ where
  th : Int
  pk : Bool

abbrev rowZ (x : Int) : List FC := [.int .i64 x]
abbrev rowU (x : Int) : List FC := [.int .u64 x]
abbrev rowB (x : Int) : List FC := [.int .u8 x]
abbrev rowIns (x : InsZ) : List FC := [.int .i64 x.op, .int .i64 x.a, .int .i64 x.b, .int .i64 x.c, .int .i64 x.d]
abbrev rowMove (x : MoveZ) : List FC := [.int .i64 x.th, .bool x.pk]

theorem follows : Tryz.prog.follows .mixedOrders = true := by decide +kernel

theorem fin {b : Bool} (h : b = true) : (bl b : AV) = bl true := congrArg bl h

end Go.Mac
end

/- slices.Equal of numbers. -/
section
open Go Go.Proofs Go.Mac
set_option maxRecDepth 100000
namespace Go.Mac

section
variable {K : AV → List Nat → List PO → Prop}

end
end Go.Mac
end

/- pick. -/
section
open Go Go.Proofs Go.Mac
set_option maxRecDepth 100000
namespace Go.Mac

/-- One of n numbers. -/
def pickZ (a n : Int) : Int := a % 18446744073709551616 % n

theorem pickZ_lt (a : Int) {n : Int} (hn : 0 < n) : 0 ≤ pickZ a n ∧ pickZ a n < n := ⟨Int.emod_nonneg _ (by omega), Int.emod_lt_of_pos _ hn⟩

theorem wrap_u64_mod (a : Int) : IntKind.u64.wrap a = a % 18446744073709551616 := by
  simp only [IntKind.wrap, IntKind.bits, IntKind.signed]
  simp

theorem pick {K : AV → List Nat → List PO → Prop} (a n : Int) (hn : 0 < n ∧ n ≤ 4611686018427387904) (hK : K (i64 (pickZ a n)) [] []) : Does Tryz.prog 18 [i64 a, i64 n] [] K := by
  refine does Tryz.func18 rfl (by decide) ?_
  refine nonzero_intro (by rw [wrap_u64 n (by omega) (by omega)]; omega) ?_
  refine eqz (K := fun z => K (i64 z) [] []) hK ?_
  have h := pickZ_lt a hn.1
  unfold pickZ at h ⊢
  rw [wrap_u64 n (by omega) (by omega), wrap_u64_mod, Int.tmod_eq_emod_of_nonneg (by omega)]
  exact (wrap_i64 _ (by omega) (by omega)).symm

end Go.Mac
end

/- Lots of threads that sleep. -/
section
open Go Go.Proofs Go.Mac
set_option maxRecDepth 100000
namespace Go.Mac

structure Slp where
  t : Int
  c : Int

abbrev rowS (x : Slp) : List FC := [.int .i64 x.t, .int .i64 x.c]
abbrev errP (n : Int) : PV := .c (.iface 70 (.f (.int .i64 n)))
abbrev okP : PV := .c .niliface

/-- A lot of n: those that sleep, k of them, and what is behind them. -/
abbrev lotH (n : Int) (k : Nat) (nn : Bool) (ss ex : List Slp) : List PO := [.one [.f (.int .i64 n), .slc 1 0 k none nn], .rows false 2 ((ss ++ ex).map rowS)]

/-- The first of a thread. -/
def hasT (ss : List Slp) (t : Int) (i : Nat) (x : Slp) : Prop := ss[i]? = some x ∧ x.t = t ∧ ∀ (j : Nat) (y : Slp), j < i → ss[j]? = some y → y.t ≠ t
def noT (ss : List Slp) (t : Int) : Prop := ∀ x ∈ ss, x.t ≠ t

theorem gm {α β : Type} {f : α → β} {l : List α} {i : Nat} {x : α} (h : l[i]? = some x) : (l.map f)[0 + Int.toNat (i : Int)]? = some (f x) := by simp [h]

theorem noM {M0 : List Nat} : ∀ i ∈ ([] : List Nat), i ∈ M0 := fun _ h => by simp at h

section
variable {K : AV → List Nat → List PO → Prop}

theorem find1 (x : Slp) (t : Int) (h : K (bl (x.t == t)) [] [.one [.f (.int .i64 t)]]) : Does Tryz.prog 96 [.p (.agg [.f (.int .i64 x.t), .f (.int .i64 x.c)]), cv (.ptr 0 0)] [.one [.f (.int .i64 t)]] K := by
  refine does Tryz.func96 rfl (by decide) ?_
  exact h

theorem indexSlp {ss all : List Slp} {c : Option Nat} {nn ro : Bool} (t : Int) (k : Nat) (hk : ss.length = k) (hn : k < 4611686018427387904) (hall : ∀ i, i < k → all[i]? = ss[i]?)
    (h1 : ∀ (i : Nat) (x : Slp), hasT ss t i x → K (i64 i) [] [.rows ro 2 (all.map rowS), .one [.f (.int .i64 t)]]) (h0 : noT ss t → K (i64 (-1)) [] [.rows ro 2 (all.map rowS), .one [.f (.int .i64 t)]]) :
    Does Tryz.prog 95 [cv (.slc 0 0 k c nn), cv (.func 96 [1])] [.rows ro 2 (all.map rowS), .one [.f (.int .i64 t)]] K := by
  refine does Tryz.func95 rfl (by decide) ?_
  refine SS.loop (fun i : Nat => i ≤ k ∧ ∀ (j : Nat) (y : Slp), j < i → ss[j]? = some y → y.t ≠ t) (fun i => [(0, cv (.slc 0 0 k c nn)), (1, cv (.func 96 [1])), (7, i64 k), (8, i64 i)]) (fun _ => [.rows ro 2 (all.map rowS), .one [.f (.int .i64 t)]]) (fun i => k - i) []
    (At.mk' [0, 1, 7, 8] 0 (by simp) ⟨rfl, rfl⟩ rfl rfl (by simp) (by simp) (by simp)) ?_
  rintro i ⟨hi, hj⟩
  refine S_r ?_
  refine brc_intro (fun h => ?_) (fun h => ?_)
  · have hlt : i < k := by have := of_decide_eq_true h; omega
    obtain ⟨x, hx⟩ : ∃ x, ss[i]? = some x := ⟨_, List.getElem?_eq_getElem (by omega)⟩
    have hax := (hall i hlt).trans hx
    refine SS.inlR ?_
    refine at2 (by omega) (by omega) (rdA (rowS x) (by simp [hax]) ?_)
    change Does Tryz.prog 96 _ _ _
    refine Does.on 2 [1] _ _ (find1 x t ?_)
    refine brc_intro (fun h' => ?_) (fun h' => ?_)
    · exact h1 i x ⟨hx, by simpa using h', hj⟩
    · have e : x.t ≠ t := by simpa using h'
      refine At.mk' [0, 1, 7, 8] (i + 1) ⟨⟨hlt, fun j y hj' hy => ?_⟩, by omega⟩ ⟨?_, rfl⟩ rfl rfl (by simp) (by simp) (by simp)
      · rcases Nat.lt_succ_iff_lt_or_eq.1 hj' with h | rfl
        · exact hj j y h hy
        · rw [hx] at hy; cases hy; exact e
      · rw [wrap_i64 _ (by omega) (by omega)]
        rfl
  · have h := of_decide_eq_false h
    refine h0 fun x hx => ?_
    obtain ⟨j, hj'⟩ := List.mem_iff_getElem?.1 hx
    have := (List.getElem?_eq_some_iff.1 hj').1
    exact hj j x (by omega) hj'

variable {n : Int} {k : Nat} {nn : Bool} {ss ex : List Slp}

theorem lotFind (t : Int) (hk : ss.length = k) (hn : k < 4611686018427387904) (h1 : ∀ (i : Nat) (x : Slp), hasT ss t i x → K (i64 i) [] (lotH n k nn ss ex)) (h0 : noT ss t → K (i64 (-1)) [] (lotH n k nn ss ex)) :
    Does Tryz.prog 67 [cv (.ptr 0 0), i64 t] (lotH n k nn ss ex) K := by
  refine does Tryz.func67 rfl (by decide) ?_
  change Does Tryz.prog 95 _ _ _
  refine Does.on 3 [1, 2] _ _ (indexSlp (ss := ss) (all := ss ++ ex) t k hk hn (fun i hi => List.getElem?_append_left (by omega)) (fun i x h => ?_) fun h => ?_)
  · exact h1 i x h
  · exact h0 h

theorem lotCell (t : Int) (hk : ss.length = k) (hn : k < 4611686018427387904) (h1 : ∀ (i : Nat) (x : Slp), hasT ss t i x → K (i64 x.c) [] (lotH n k nn ss ex)) (h0 : noT ss t → K (i64 (-1)) [] (lotH n k nn ss ex)) :
    Does Tryz.prog 40 [cv (.ptr 0 0), i64 t] (lotH n k nn ss ex) K := by
  refine does Tryz.func40 rfl (by decide) ?_
  change Does Tryz.prog 67 _ _ _
  refine lotFind t hk hn (fun i x h => ?_) fun h => ?_
  · have hlt := (List.getElem?_eq_some_iff.1 h.1).1
    have hx : (ss ++ ex)[i]? = some x := (List.getElem?_append_left hlt).trans h.1
    refine at2 (by omega) (by omega) (rd1 (rowS x) (.int .i64 x.c) (gm hx) rfl ?_)
    exact h1 i x h
  · exact h0 h

theorem lotNew (n : Nat) (hn : n ≤ 16) (h : K (.tup [.c (.ptr 0 0), okP]) [] [.one [.f (.int .i64 n), .nilslc]]) : Does Tryz.prog 76 [i64 n] [] K := by
  refine does Tryz.func76 rfl (by decide) ?_
  refine brc_intro (fun h => ?_) (fun _ => ?_)
  · have := of_decide_eq_true h; omega
  · exact h

theorem lotSleep (t c : Int) (ht : 0 ≤ t ∧ t < n) (hc : 0 ≤ c ∧ c < 300) (hk : ss.length = k) (hn : k < 1000000) (hex : ex ≠ [] → nn = true)
    (h1 : noT ss t → ∀ (nn' : Bool) (ex' : List Slp), (ex' ≠ [] → nn' = true) → K (cv .niliface) [1] (lotH n (k + 1) nn' (ss ++ [⟨t, c⟩]) ex')) (h0 : ∀ (i : Nat) (x : Slp), hasT ss t i x → K (.p (errP 6)) [1] (lotH n k nn ss ex)) :
    Does Tryz.prog 72 [cv (.ptr 0 0), i64 t, i64 c] (lotH n k nn ss ex) K := by
  refine Does.moved [1] ?_
  refine does Tryz.func72 rfl (by decide) ?_
  refine brc_intro (fun h => ?_) (fun _ => ?_)
  · have := of_decide_eq_true h; omega
  refine brc_intro (fun h => ?_) (fun _ => ?_)
  · have := of_decide_eq_true h; omega
  refine brc_intro (fun h => ?_) (fun _ => ?_)
  · have := of_decide_eq_true h; omega
  refine brc_intro (fun h => ?_) (fun _ => ?_)
  · have := of_decide_eq_true h; omega
  change Does Tryz.prog 67 _ _ _
  refine lotFind t hk (by omega) (fun i x h => ?_) fun h => ?_
  · exact ⟨noM, h0 i x h⟩
  · have hk1 := h1 h
    clear h1 h0
    refine And.intro (by simp) ?_
    cases ex with
    | nil =>
      refine Or.inl (And.intro rfl (And.intro (by simp; omega) (And.intro ?_ (And.intro ?_ ?_))))
      · show (k + 1) * 16 ≤ _
        omega
      · show k + 1 ≤ _
        omega
      · refine And.intro (fun i hi => hi) ?_
        refine eqx (K := fun r => K (cv .niliface) [1] [.one [.f (.int .i64 n), .slc 1 0 (k + 1) none nn], .rows false 2 r]) (hk1 nn [] (by simp)) ?_
        simp
    | cons y ex =>
      obtain rfl := hex (by simp)
      refine Or.inr (And.intro rfl (And.intro rfl (And.intro ?_ ?_)))
      · show 0 + k + 1 ≤ _
        simp; omega
      · refine And.intro noM ?_
        refine eqx (K := fun r => K (cv .niliface) [1] [.one [.f (.int .i64 n), .slc 1 0 (k + 1) none true], .rows false 2 r]) (hk1 true ex (fun _ => rfl)) ?_
        show ((ss ++ [(⟨t, c⟩ : Slp)]) ++ ex).map rowS = (((ss ++ y :: ex).map rowS).take (0 + k) ++ [rowS ⟨t, c⟩]) ++ ((ss ++ y :: ex).map rowS).drop (0 + k + 1)
        subst hk
        simp [List.drop_append]

/-- Who sleeps at a cell. -/
def atL (c : Int) (ss : List Slp) : List Int := (ss.filter fun x => x.c == c).map (·.t)

theorem atL_succ (c : Int) (ss : List Slp) (i : Nat) (x : Slp) (h : ss[i]? = some x) : atL c (ss.take (i + 1)) = atL c (ss.take i) ++ (if x.c = c then [x.t] else []) := by
  have : ss.take (i + 1) = ss.take i ++ [x] := by rw [List.take_add_one, h]; rfl
  rw [this]
  unfold atL
  rw [List.filter_append, List.map_append]
  congr 1
  by_cases hx : x.c = c <;> simp [hx]

theorem atL_len (c : Int) (ss : List Slp) (i : Nat) : (atL c (ss.take i)).length ≤ i := by
  have h1 := List.length_filter_le (fun x : Slp => x.c == c) (ss.take i)
  have h2 : (ss.take i).length ≤ i := by simp; omega
  unfold atL
  rw [List.length_map]
  omega

end
end Go.Mac
end

/- Lots: who is woken. -/
section
open Go Go.Proofs Go.Mac
set_option maxRecDepth 100000
namespace Go.Mac

/-- What Wake's function has: the cell, those woken, and how many at most. -/
abbrev wH (c n : Int) (m : Nat) (nn : Bool) (out : List Int) : List PO := [.one [.f (.int .i64 c)], .one [.slc 3 0 m none nn], .one [.f (.int .i64 n)], .rows false 1 (out.map rowZ)]

section
variable {K : AV → List Nat → List PO → Prop}

theorem wake1 (x : Slp) (c n : Int) {m : Nat} {nn : Bool} {out : List Int} (hm : out.length = m) (hb : m < 1000000)
    (h1 : x.c = c ∧ (m : Int) < n → K (bl true) [3] (wH c n (m + 1) nn (out ++ [x.t]))) (h0 : ¬ (x.c = c ∧ (m : Int) < n) → K (bl false) [3] (wH c n m nn out)) :
    Does Tryz.prog 118 [.p (.agg [.f (.int .i64 x.t), .f (.int .i64 x.c)]), cv (.ptr 0 0), cv (.ptr 1 0), cv (.ptr 2 0)] (wH c n m nn out) K := by
  refine Does.moved [3] ?_
  refine does Tryz.func118 rfl (by decide) ?_
  refine brc_intro (fun h => ?_) (fun h => ?_)
  · exact ⟨noM, h0 fun e => by simp [e.1] at h⟩
  refine brc_intro (fun h' => ?_) (fun h' => ?_)
  · exact ⟨noM, h0 fun e => by simp at h'; omega⟩
  · have := h1 ⟨by simpa using h, by simpa using h'⟩
    refine And.intro (by simp) (Or.inl (And.intro rfl (And.intro (by simp; omega) (And.intro ?_ (And.intro ?_ ?_)))))
    · show (m + 1) * 8 ≤ _
      omega
    · show m + 1 ≤ _
      omega
    · refine And.intro (fun i hi => hi) ?_
      unfold wH at this
      rw [show (out ++ [x.t]).map rowZ = out.map rowZ ++ [rowZ x.t] from List.map_append] at this
      exact this

/-- Who is woken, and who sleeps on: of a cell, at most n, m of them already. -/
def wakeL (c n : Int) : Nat → List Slp → List Int × List Slp
  | _, [] => ([], [])
  | m, x :: xs => if x.c = c ∧ (m : Int) < n then (x.t :: (wakeL c n (m + 1) xs).1, (wakeL c n (m + 1) xs).2) else ((wakeL c n m xs).1, x :: (wakeL c n m xs).2)

theorem wakeL_snoc (c n : Int) (x : Slp) : ∀ (l : List Slp) (m : Nat), wakeL c n m (l ++ [x]) = if x.c = c ∧ ((m + (wakeL c n m l).1.length : Nat) : Int) < n then ((wakeL c n m l).1 ++ [x.t], (wakeL c n m l).2) else ((wakeL c n m l).1, (wakeL c n m l).2 ++ [x])
  | [], m => by
    by_cases hx : x.c = c ∧ (m : Int) < n <;> simp [wakeL, hx]
  | y :: l, m => by
    simp only [List.cons_append, wakeL]
    by_cases hy : y.c = c ∧ (m : Int) < n
    · simp only [hy, if_pos, wakeL_snoc c n x l (m + 1), and_self]
      have : m + 1 + (wakeL c n (m + 1) l).1.length = m + ((wakeL c n (m + 1) l).1.length + 1) := by omega
      simp only [this, List.length_cons]
      split <;> simp
    · simp only [hy, if_neg, wakeL_snoc c n x l m, not_false_eq_true]
      split <;> simp

theorem wakeL_take (c n : Int) (ss : List Slp) (i : Nat) (x : Slp) (h : ss[i]? = some x) :
    wakeL c n 0 (ss.take (i + 1)) = if x.c = c ∧ ((wakeL c n 0 (ss.take i)).1.length : Int) < n then ((wakeL c n 0 (ss.take i)).1 ++ [x.t], (wakeL c n 0 (ss.take i)).2) else ((wakeL c n 0 (ss.take i)).1, (wakeL c n 0 (ss.take i)).2 ++ [x]) := by
  have : ss.take (i + 1) = ss.take i ++ [x] := by rw [List.take_add_one, h]; rfl
  rw [this, wakeL_snoc]
  simp

theorem wakeL_len (c n : Int) : ∀ (l : List Slp) (m : Nat), (wakeL c n m l).1.length + (wakeL c n m l).2.length = l.length
  | [], m => by simp [wakeL]
  | y :: l, m => by
    simp only [wakeL]
    have h1 := wakeL_len c n l (m + 1)
    have h2 := wakeL_len c n l m
    split <;> simp <;> omega

/-- What DeleteFunc has: those that sleep, and what Wake's function has. -/
abbrev dH (c n : Int) (all : List Slp) (m : Nat) (nn : Bool) (out : List Int) : List PO := [.rows false 2 (all.map rowS), .one [.f (.int .i64 c)], .one [.slc 4 0 m none nn], .one [.f (.int .i64 n)], .rows false 1 (out.map rowZ)]

theorem wakeIndex {ss all : List Slp} {nn : Bool} (c n : Int) {k : Nat} {b : Bool} (hk : ss.length = k) (hn : k < 1000000) (hall : ∀ i, i < k → all[i]? = ss[i]?)
    (h1 : ∀ (i : Nat) (x : Slp), ss[i]? = some x → wakeL c n 0 (ss.take i) = ([], ss.take i) → wakeL c n 0 (ss.take (i + 1)) = ([x.t], ss.take i) → K (i64 i) [4] (dH c n all 1 b [x.t]))
    (h0 : wakeL c n 0 ss = ([], ss) → K (i64 (-1)) [4] (dH c n all 0 b [])) :
    Does Tryz.prog 95 [cv (.slc 0 0 k none nn), cv (.func 118 [1, 2, 3])] (dH c n all 0 b []) K := by
  refine Does.moved [4] ?_
  refine does Tryz.func95 rfl (by decide) ?_
  refine SS.loop (fun i : Nat => i ≤ k ∧ wakeL c n 0 (ss.take i) = ([], ss.take i)) (fun i => [(0, cv (.slc 0 0 k none nn)), (1, cv (.func 118 [1, 2, 3])), (7, i64 k), (8, i64 i)]) (fun _ => dH c n all 0 b []) (fun i => k - i) [4]
    (At.mk' [0, 1, 7, 8] 0 (by simp [wakeL]) ⟨rfl, rfl⟩ rfl rfl (by simp) (by simp) (by simp)) ?_
  rintro i ⟨hi, hj⟩
  refine S_r ?_
  refine brc_intro (fun h => ?_) (fun h => ?_)
  · have hlt : i < k := by have := of_decide_eq_true h; omega
    obtain ⟨x, hx⟩ : ∃ x, ss[i]? = some x := ⟨_, List.getElem?_eq_getElem (by omega)⟩
    have hax := (hall i hlt).trans hx
    have hw := wakeL_take c n ss i x hx
    rw [hj] at hw
    refine SS.inlR ?_
    refine at2 (by omega) (by omega) (rdA (rowS x) (by simp [hax]) ?_)
    change Does Tryz.prog 118 _ _ _
    refine Does.on 5 [1, 2, 3, 4] _ _ (wake1 (m := 0) (nn := b) (out := []) x c n rfl (by simp) (fun h' => ?_) fun h' => ?_)
    · rw [if_pos (by simpa using h')] at hw
      exact ⟨by decide, h1 i x hx hj hw⟩
    · rw [if_neg (by simpa using h')] at hw
      refine At.mk' [0, 1, 7, 8] (i + 1) ⟨⟨hlt, ?_⟩, by omega⟩ ⟨?_, rfl⟩ rfl rfl (by first | decide | simp) (by first | decide | simp) (by first | decide | simp)
      · rw [hw, List.take_add_one, hx]
        rfl
      · rw [wrap_i64 _ (by omega) (by omega)]
        rfl
  · have h := of_decide_eq_false h
    obtain rfl : k = i := by omega
    rw [List.take_of_length_le (by omega)] at hj
    exact ⟨by decide, h0 hj⟩

theorem wakeDelete {ss ex : List Slp} {nn : Bool} (c n : Int) {k : Nat} {b : Bool} (hk : ss.length = k) (hn : k < 1000000) (hex : ex ≠ [] → nn = true)
    (h : ∀ (nn' b' : Bool) (ex' : List Slp), (ex' ≠ [] → nn' = true) → K (cv (.slc 0 0 (wakeL c n 0 ss).2.length none nn')) [4] (dH c n ((wakeL c n 0 ss).2 ++ ex') (wakeL c n 0 ss).1.length b' (wakeL c n 0 ss).1)) :
    Does Tryz.prog 117 [cv (.slc 0 0 k none nn), cv (.func 118 [1, 2, 3])] (dH c n (ss ++ ex) 0 b []) K := by
  refine Does.moved [4] ?_
  refine does Tryz.func117 rfl (by decide) ?_
  change Does Tryz.prog 95 _ _ _
  refine wakeIndex (ss := ss) c n hk hn (fun i hi => List.getElem?_append_left (by omega)) (fun i x hx h1 h2 => ?_) fun h0 => ?_
  · have hi := (List.getElem?_eq_some_iff.1 hx).1
    refine SS.loop (fun p : Nat × List Slp => p.1 ≤ k ∧ (wakeL c n 0 (ss.take p.1)).2.length + p.2.length = p.1 ∧ 1 ≤ p.2.length)
      (fun p => [(0, cv (.slc 0 0 k none nn)), (1, cv (.func 118 [1, 2, 3])), (5, i64 (wakeL c n 0 (ss.take p.1)).2.length), (6, i64 p.1)])
      (fun p => dH c n ((wakeL c n 0 (ss.take p.1)).2 ++ p.2 ++ (ss.drop p.1 ++ ex)) (wakeL c n 0 (ss.take p.1)).1.length b (wakeL c n 0 (ss.take p.1)).1) (fun p => k - p.1) [4]
      (At.mk' [0, 1, 5, 6] (i + 1, [x]) ⟨by show i + 1 ≤ k; omega, by rw [h2]; simp; omega, by simp⟩ ⟨?_, rfl⟩ ?_ rfl (by simp) (by first | decide | simp) (by first | decide | simp)) ?_
    · simp only [h2, List.length_take]
      have : min i ss.length = i := by omega
      rw [this, wrap_i64 _ (by omega) (by omega)]
      rfl
    · show dH c n (ss ++ ex) 1 b [x.t] = dH c n ((wakeL c n 0 (ss.take (i + 1))).2 ++ [x] ++ (ss.drop (i + 1) ++ ex)) (wakeL c n 0 (ss.take (i + 1))).1.length b (wakeL c n 0 (ss.take (i + 1))).1
      rw [h2]
      have : ss ++ ex = ss.take i ++ [x] ++ (ss.drop (i + 1) ++ ex) := by
        have h3 : ss.drop i = x :: ss.drop (i + 1) := by
          rw [List.drop_eq_getElem_cons hi]
          congr 1
          exact (List.getElem?_eq_some_iff.1 hx).2
        conv => lhs; rw [← List.take_append_drop i ss, h3]
        simp
      rw [this]
      rfl
    clear h1 h2 hx hi i x
    rintro ⟨j, junk⟩ ⟨hj, hjl, hj1⟩
    change j ≤ k at hj
    change (wakeL c n 0 (ss.take j)).2.length + junk.length = j at hjl
    change 1 ≤ junk.length at hj1
    refine S_r ?_
    refine brc_intro (fun hlt => ?_) (fun hlt => ?_)
    · have hlt : j < k := by
        have := of_decide_eq_true hlt
        have : (j : Int) < k := this
        omega
      obtain ⟨x, hx⟩ : ∃ x, ss[j]? = some x := ⟨_, List.getElem?_eq_getElem (by omega)⟩
      have h3 : ss.drop j = x :: ss.drop (j + 1) := by
        rw [List.drop_eq_getElem_cons (by omega)]
        congr 1
        exact (List.getElem?_eq_some_iff.1 hx).2
      have hw := wakeL_take c n ss j x hx
      have hax : ((wakeL c n 0 (ss.take j)).2 ++ junk ++ (ss.drop j ++ ex))[j]? = some x := by
        rw [List.getElem?_append_right (by simp; omega), h3]
        simp [hjl]
      refine SS.inlR ?_
      refine at2 (by show (0 : Int) ≤ (j : Int); omega) (by show (j : Int) < (k : Int); omega) (rdA (rowS x) (gm hax) ?_)
      change Does Tryz.prog 118 _ _ _
      have hol := wakeL_len c n (ss.take j) 0
      rw [List.length_take] at hol
      refine Does.on 6 [1, 2, 3, 4] _ _ (wake1 (m := (wakeL c n 0 (ss.take j)).1.length) (nn := b) (out := (wakeL c n 0 (ss.take j)).1) x c n rfl (by omega) (fun h' => ?_) fun h' => ?_)
      · rw [if_pos h'] at hw
        refine At.mk' [0, 1, 5, 6] (j + 1, junk ++ [x]) ⟨⟨by show j + 1 ≤ k; omega, by show (wakeL c n 0 (ss.take (j + 1))).2.length + (junk ++ [x]).length = j + 1; rw [hw]; simp; omega, by simp⟩, by show k - (j + 1) < k - j; omega⟩ ⟨?_, rfl⟩ ?_ rfl (by simp) (by first | decide | simp) (by first | decide | simp)
        · simp only [hw]
          rw [wrap_i64 _ (by omega) (by omega)]
          rfl
        · show dH c n _ ((wakeL c n 0 (ss.take j)).1.length + 1) b ((wakeL c n 0 (ss.take j)).1 ++ [x.t]) = dH c n ((wakeL c n 0 (ss.take (j + 1))).2 ++ (junk ++ [x]) ++ (ss.drop (j + 1) ++ ex)) (wakeL c n 0 (ss.take (j + 1))).1.length b (wakeL c n 0 (ss.take (j + 1))).1
          rw [hw, h3]
          simp
      · rw [if_neg h'] at hw
        refine at2 (by omega) (by show ((wakeL c n 0 (ss.take j)).2.length : Int) < (k : Int); omega) ?_
        obtain ⟨y, junk, rfl⟩ : ∃ y l, junk = y :: l := by
          cases junk with
          | nil => simp at hj1
          | cons y l => exact ⟨y, l, rfl⟩
        have hby : ((wakeL c n 0 (ss.take j)).2 ++ (y :: junk) ++ (ss.drop j ++ ex))[(wakeL c n 0 (ss.take j)).2.length]? = some y := by simp
        refine wr1 (rowS y) (gm hby) ?_
        refine At.mk' [0, 1, 5, 6] (j + 1, junk ++ [x]) ⟨⟨by show j + 1 ≤ k; omega, by show (wakeL c n 0 (ss.take (j + 1))).2.length + (junk ++ [x]).length = j + 1; rw [hw]; simp at hjl ⊢; omega, by simp⟩, by show k - (j + 1) < k - j; omega⟩ ⟨?_, rfl⟩ ?_ rfl (by simp) (by first | decide | simp) (by first | decide | simp)
        · simp only [hw]
          rw [wrap_i64 _ (by omega) (by omega), wrap_i64 _ (by omega) (by omega), List.length_append]
          rfl
        · have hset : (((wakeL c n 0 (ss.take j)).2 ++ (y :: junk) ++ (ss.drop j ++ ex)).map rowS).set (0 + ((wakeL c n 0 (ss.take j)).2.length : Int).toNat) (rowS x) = ((wakeL c n 0 (ss.take j)).2 ++ [x] ++ (junk ++ [x]) ++ (ss.drop (j + 1) ++ ex)).map rowS := by
            rw [h3, Nat.zero_add, Int.toNat_natCast]
            simp
          show PO.rows false 2 ((((wakeL c n 0 (ss.take j)).2 ++ (y :: junk) ++ (ss.drop j ++ ex)).map rowS).set (0 + ((wakeL c n 0 (ss.take j)).2.length : Int).toNat) (rowS x)) :: _ = dH c n ((wakeL c n 0 (ss.take (j + 1))).2 ++ (junk ++ [x]) ++ (ss.drop (j + 1) ++ ex)) (wakeL c n 0 (ss.take (j + 1))).1.length b (wakeL c n 0 (ss.take (j + 1))).1
          rw [hset, hw]
          rfl
    · have hlt : ¬ (j : Int) < (k : Int) := of_decide_eq_false hlt
      obtain rfl : k = j := by omega
      have hnn : (nn || Nat.blt 0 k) = true := by
        have : Nat.blt 0 k = true := by simp [Nat.blt]; omega
        rw [this, Bool.or_true]
      refine Or.inl (And.intro (by omega) (And.intro (by show ((wakeL c n 0 (ss.take k)).2.length : Int) ≤ (k : Int); omega) ?_))
      have ht : ss.take k = ss := List.take_of_length_le (by omega)
      have h := h (nn || Nat.blt 0 k) b (List.replicate junk.length (⟨0, 0⟩ : Slp) ++ ex) (fun _ => hnn)
      have hd : ss.drop k = [] := List.drop_eq_nil_iff.2 (by omega)
      have hr : ((wakeL c n 0 ss).2 ++ (List.replicate junk.length (⟨0, 0⟩ : Slp) ++ ex)).map rowS = (((wakeL c n 0 (ss.take k)).2 ++ junk ++ (ss.drop k ++ ex)).map rowS).take (0 + ((wakeL c n 0 (ss.take k)).2.length : Int).toNat) ++
          List.replicate (k - ((wakeL c n 0 (ss.take k)).2.length : Int).toNat) [.int .i64 0, .int .i64 0] ++ (((wakeL c n 0 (ss.take k)).2 ++ junk ++ (ss.drop k ++ ex)).map rowS).drop (0 + ((wakeL c n 0 (ss.take k)).2.length : Int).toNat + (k - ((wakeL c n 0 (ss.take k)).2.length : Int).toNat)) := by
        rw [ht] at hjl ⊢
        have e1 : k - ((wakeL c n 0 ss).2.length : Int).toNat = junk.length := by omega
        rw [hd, e1, Nat.zero_add, Int.toNat_natCast, List.nil_append, ← List.map_take, ← List.map_drop, List.append_assoc (wakeL c n 0 ss).2 junk ex, List.take_left, ← List.drop_drop, List.drop_left, List.drop_left]
        simp
      refine And.intro ?_ ?_
      · show (0 + ((wakeL c n 0 (ss.take k)).2.length : Int).toNat) + (k - ((wakeL c n 0 (ss.take k)).2.length : Int).toNat) ≤ (((wakeL c n 0 (ss.take k)).2 ++ junk ++ (ss.drop k ++ ex)).map rowS).length
        simp only [List.length_map, List.length_append]
        omega
      refine Or.inl (And.intro (by omega) (And.intro (by show ((wakeL c n 0 (ss.take k)).2.length : Int) ≤ (k : Int); omega) ?_))
      refine And.intro (by decide) ?_
      rw [dH, hr] at h
      simp only [ht] at h ⊢
      exact h
  · have := h nn b ex hex
    rw [h0] at this
    refine ⟨by decide, ?_⟩
    subst hk
    exact this

variable {n : Int} {k : Nat} {nn : Bool} {ss ex : List Slp}

theorem lotWake (c w : Int) {out : List Int} {kept : List Slp} (hw : wakeL c w 0 ss = (out, kept)) (hk : ss.length = k) (hn : k < 1000000) (hex : ex ≠ [] → nn = true)
    (h : ∀ (nn' b : Bool) (ex' : List Slp), (ex' ≠ [] → nn' = true) → K (cv (.slc 5 0 out.length none b)) [] (lotH n kept.length nn' kept ex' ++ [.one [.f (.int .i64 c)], .one [.f (.int .i64 w)], .one [.slc 5 0 out.length none b], .rows false 1 (out.map rowZ)])) :
    Does Tryz.prog 98 [cv (.ptr 0 0), i64 c, i64 w] (lotH n k nn ss ex) K := by
  refine does Tryz.func98 rfl (by decide) ?_
  change Does Tryz.prog 117 _ _ _
  refine Does.nilH 4 0 1 (by decide) rfl rfl ?_
  refine Does.on 6 [1, 2, 4, 3, 5] _ _ (wakeDelete c w hk hn hex fun nn' b ex' he => ?_)
  rw [hw]
  exact h nn' b ex' he

end
end Go.Mac
end

/- Lots: who is woken for nothing. -/
section
open Go Go.Proofs Go.Mac
set_option maxRecDepth 100000
namespace Go.Mac

section
variable {K : AV → List Nat → List PO → Prop} {n : Int} {k : Nat} {nn : Bool} {ss ex : List Slp}

theorem delSlp {pre post : List Slp} {x : Slp} (hn : pre.length + post.length + 1 < 1000000)
    (h : K (cv (.slc 0 0 (pre.length + post.length) none true)) [] [.rows false 2 ((pre ++ post ++ ⟨0, 0⟩ :: ex).map rowS)]) :
    Does Tryz.prog 90 [cv (.slc 0 0 (pre.length + post.length + 1) none nn), i64 pre.length, i64 ((pre.length + 1 : Nat) : Int)] [.rows false 2 ((pre ++ x :: post ++ ex).map rowS)] K := by
  refine does Tryz.func90 rfl (by decide) ?_
  refine And.intro (by omega) (And.intro (by omega) (And.intro (by omega) (And.intro (by omega) ?_)))
  refine brc_intro (fun h => absurd h (by simp; omega)) (fun _ => ?_)
  refine SS.drawR follows (by decide) ?_
  refine Or.inl (And.intro (by omega) (And.intro (by omega) ?_))
  refine Or.inl (And.intro (by omega) (And.intro (by omega) ?_))
  refine And.intro (by simp; omega) ?_
  have hnn : (nn || Nat.blt 0 (pre.length + post.length + 1)) = true := by simp [Nat.blt]
  have hx : (((pre ++ x :: post ++ ex).map rowS).drop (0 + ((pre.length + 1 : Nat) : Int).toNat)).take (pre.length + post.length + 1 - ((pre.length + 1 : Nat) : Int).toNat) = post.map rowS := by
    simp [List.drop_append, List.take_append]
  rw [hx]
  refine Or.inr (And.intro rfl (And.intro hnn (And.intro ?_ ?_)))
  · simp
    omega
  obtain ⟨y, hy⟩ : ∃ y, (x :: post).drop post.length = [y] := by
    have : ((x :: post).drop post.length).length = 1 := by simp
    match h : (x :: post).drop post.length with
    | [] => simp [h] at this
    | [y] => exact ⟨y, rfl⟩
    | _ :: _ :: _ => simp [h] at this
  have hr : ((pre ++ x :: post ++ ex).map rowS).take (0 + 0 + ((pre.length : Int).toNat - 0)) ++ post.map rowS ++ ((pre ++ x :: post ++ ex).map rowS).drop (0 + 0 + ((pre.length : Int).toNat - 0) + (post.map rowS).length) = (pre ++ post ++ y :: ex).map rowS := by
    rw [← List.map_take, ← List.map_drop, ← List.map_append, ← List.map_append]
    congr 1
    have e : pre ++ x :: post ++ ex = pre ++ ((x :: post) ++ ex) := by simp
    rw [e]
    have e1 : 0 + 0 + ((pre.length : Int).toNat - 0) = pre.length := by omega
    rw [e1, List.take_left, List.length_map, ← List.drop_drop, List.drop_left, List.drop_append_of_le_length (by simp), hy]
    simp
  rw [hr]
  refine Or.inr (And.intro rfl (And.intro hnn (And.intro (by omega) (And.intro (by omega) (And.intro ?_ (And.intro ?_ ?_))))))
  · simp
    omega
  · simp
    omega
  refine And.intro ?_ ?_
  · simp
    omega
  have hn' : pre.length + post.length = (pre.length : Int).toNat - 0 + (post.map rowS).length := by simp
  have hr' : (pre ++ post ++ ⟨0, 0⟩ :: ex).map rowS = ((pre ++ post ++ y :: ex).map rowS).take (0 + 0 + (((pre.length : Int).toNat - 0 + (post.map rowS).length : Nat) : Int).toNat) ++ List.replicate (((pre.length + post.length + 1 : Nat) : Int).toNat - (((pre.length : Int).toNat - 0 + (post.map rowS).length : Nat) : Int).toNat) [.int .i64 0, .int .i64 0] ++
      ((pre ++ post ++ y :: ex).map rowS).drop (0 + 0 + (((pre.length : Int).toNat - 0 + (post.map rowS).length : Nat) : Int).toNat + (((pre.length + post.length + 1 : Nat) : Int).toNat - (((pre.length : Int).toNat - 0 + (post.map rowS).length : Nat) : Int).toNat)) := by
    have e1 : (((pre.length : Int).toNat - 0 + (post.map rowS).length : Nat) : Int).toNat = (pre ++ post).length := by
      simp
      omega
    have e2 : ((pre.length + post.length + 1 : Nat) : Int).toNat - (pre ++ post).length = 1 := by simp; omega
    rw [e1, e2, Nat.add_zero, Nat.zero_add, ← List.map_take, ← List.map_drop, List.take_left, ← List.drop_drop, List.drop_left]
    simp
  rw [hn', hr', ← hnn] at h
  exact h

theorem lotPoke (t : Int) (ht : 0 ≤ t ∧ t < n) (hk : ss.length = k) (hn : k < 1000000)
    (h1 : ∀ (pre post : List Slp) (x : Slp), ss = pre ++ x :: post → x.t = t → noT pre t → K (cv .niliface) [] (lotH n (pre.length + post.length) true (pre ++ post) (⟨0, 0⟩ :: ex)))
    (h0 : noT ss t → K (.p (errP 6)) [] (lotH n k nn ss ex)) :
    Does Tryz.prog 61 [cv (.ptr 0 0), i64 t] (lotH n k nn ss ex) K := by
  refine does Tryz.func61 rfl (by decide) ?_
  refine brc_intro (fun h => ?_) (fun _ => ?_)
  · have := of_decide_eq_true h; omega
  refine brc_intro (fun h => ?_) (fun _ => ?_)
  · have := of_decide_eq_true h; omega
  change Does Tryz.prog 67 _ _ _
  refine lotFind t hk (by omega) (fun i x h => ?_) h0
  obtain ⟨hx, hxt, hno⟩ := h
  have hi := (List.getElem?_eq_some_iff.1 hx).1
  have hs : ss = ss.take i ++ x :: ss.drop (i + 1) := by
    conv => lhs; rw [← List.take_append_drop i ss, List.drop_eq_getElem_cons hi]
    rw [(List.getElem?_eq_some_iff.1 hx).2]
  have hno' : noT (ss.take i) t := fun y hy => by
    obtain ⟨j, hj⟩ := List.mem_iff_getElem?.1 hy
    have hji := (List.getElem?_eq_some_iff.1 hj).1
    rw [List.length_take] at hji
    rw [List.getElem?_take_of_lt (by omega)] at hj
    exact hno j y (by omega) hj
  replace h1 := h1 _ _ x hs hxt hno'
  have e1 : (ss.take i).length = i := by simp; omega
  have e2 : k = (ss.take i).length + (ss.drop (i + 1)).length + 1 := by simp; omega
  change Does Tryz.prog 90 _ _ _
  rw [wrap_i64 _ (by omega) (by omega)]
  generalize ss.take i = pre at *
  generalize ss.drop (i + 1) = post at *
  subst hs e1 e2
  refine Does.on 2 [1] _ _ (delSlp (by omega) ?_)
  refine eqx (K := fun r : List Slp => K (cv .niliface) [] [.one [.f (.int .i64 n), .slc 1 0 (pre.length + post.length) none true], .rows false 2 (r.map rowS)]) h1 ?_
  simp

end
end Go.Mac
end

/- slices.Equal of words. -/
section
open Go Go.Proofs Go.Mac
set_option maxRecDepth 100000
namespace Go.Mac

section
variable {K : AV → List Nat → List PO → Prop}

end
end Go.Mac
end

/- Memories. -/
section
open Go Go.Proofs Go.Mac
set_option maxRecDepth 100000
namespace Go.Mac

abbrev okC' : PV := .c .niliface
abbrev errC' (n : Int) : PV := .c (.iface 70 (.f (.int .i64 n)))
abbrev wordC (n : Int) : PV := .c (.f (.int .u64 n))

/-- A memory of n cells. -/
abbrev memH (nn : Bool) (n : Nat) (ws : List Int) : List PO := [.one [.slc 1 0 n none nn], .rows false 1 (ws.map rowU)]

section
variable {K : AV → List Nat → List PO → Prop} {nn : Bool} {n : Nat} {ws : List Int}

theorem memIn (at' : Int) (h : K (bl (decide (0 ≤ at' ∧ at' < n))) [] (memH nn n ws)) : Does Tryz.prog 97 [cv (.ptr 0 0), i64 at'] (memH nn n ws) K := by
  refine does Tryz.func97 rfl (by decide) ?_
  refine brc_intro (fun h1 => ?_) (fun h1 => ?_)
  · refine eqb (K := fun b => K (bl b) [] (memH nn n ws)) h ?_
    have h1 := of_decide_eq_true h1
    simp [h1]
  · refine eqb (K := fun b => K (bl b) [] (memH nn n ws)) h ?_
    have h1 := of_decide_eq_false h1
    simp
    omega

theorem memLoad (hn : ws.length = n) (at' : Int) (h1 : ∀ (k : Nat) (x : Int), at' = k → ws[k]? = some x → K (.tup [wordC x, okC']) [] (memH nn n ws)) (h0 : ¬ (0 ≤ at' ∧ at' < n) → K (.tup [wordC 0, errC' 2]) [] (memH nn n ws)) :
    Does Tryz.prog 68 [cv (.ptr 0 0), i64 at'] (memH nn n ws) K := by
  refine does Tryz.func68 rfl (by decide) ?_
  change Does Tryz.prog 97 _ _ _
  refine memIn at' ?_
  refine brc_intro (fun h => ?_) (fun h => ?_)
  · exact h0 (by simp at h; omega)
  · have h : 0 ≤ at' ∧ at' < n := by simpa using h
    obtain ⟨k, rfl⟩ := Int.eq_ofNat_of_zero_le h.1
    obtain ⟨x, hx⟩ : ∃ x, ws[k]? = some x := ⟨_, List.getElem?_eq_getElem (by omega)⟩
    refine at2 (by omega) (by omega) (rd1 (rowU x) (.int .u64 x) (by simp [hx]) rfl ?_)
    exact h1 k x rfl hx

theorem memStore (hn : ws.length = n) (at' x : Int) (h1 : ∀ k : Nat, at' = k → k < n → K (cv .niliface) [] (memH nn n (ws.set k x))) (h0 : ¬ (0 ≤ at' ∧ at' < n) → K (.p (errC' 2)) [] (memH nn n ws)) :
    Does Tryz.prog 99 [cv (.ptr 0 0), i64 at', u64 x] (memH nn n ws) K := by
  refine does Tryz.func99 rfl (by decide) ?_
  change Does Tryz.prog 97 _ _ _
  refine memIn at' ?_
  refine brc_intro (fun h => ?_) (fun h => ?_)
  · exact h0 (by simp at h; omega)
  · have h : 0 ≤ at' ∧ at' < n := by simpa using h
    obtain ⟨k, rfl⟩ := Int.eq_ofNat_of_zero_le h.1
    obtain ⟨y, hy⟩ : ∃ x, ws[k]? = some x := ⟨_, List.getElem?_eq_getElem (by omega)⟩
    refine at2 (by omega) (by omega) (wr1 (rowU y) (by simp [hy]) ?_)
    refine eqx (K := fun r => K (cv .niliface) [] [.one [.slc 1 0 n none nn], .rows false 1 r]) (h1 k rfl (by omega)) ?_
    simp

theorem memFetch (hn : ws.length = n) (at' m : Int) (h1 : ∀ (k : Nat) (x : Int), at' = k → ws[k]? = some x → K (.tup [wordC x, okC']) [] (memH nn n (ws.set k (IntKind.u64.wrap (x + m))))) (h0 : ¬ (0 ≤ at' ∧ at' < n) → K (.tup [wordC 0, errC' 2]) [] (memH nn n ws)) :
    Does Tryz.prog 70 [cv (.ptr 0 0), i64 at', u64 m] (memH nn n ws) K := by
  refine does Tryz.func70 rfl (by decide) ?_
  change Does Tryz.prog 68 _ _ _
  refine memLoad hn at' (fun k x hk hx => ?_) fun h => ?_
  · subst hk
    have hlt := (List.getElem?_eq_some_iff.1 hx).1
    refine at2 (by omega) (by omega) (wr1 (rowU x) (by simp [hx]) ?_)
    refine eqx (K := fun r => K (.tup [wordC x, okC']) [] [.one [.slc 1 0 n none nn], .rows false 1 r]) (h1 k x rfl hx) ?_
    simp
  · exact h0 h

theorem memSwap (hn : ws.length = n) (at' was is : Int) (h1 : ∀ (k : Nat) (x : Int), at' = k → ws[k]? = some x → x = was → K (.tup [.c (.f (.bool true)), okC']) [] (memH nn n (ws.set k is)))
    (h2 : ∀ (k : Nat) (x : Int), at' = k → ws[k]? = some x → x ≠ was → K (.tup [.c (.f (.bool false)), okC']) [] (memH nn n ws)) (h0 : ¬ (0 ≤ at' ∧ at' < n) → K (.tup [.c (.f (.bool false)), errC' 2]) [] (memH nn n ws)) :
    Does Tryz.prog 71 [cv (.ptr 0 0), i64 at', u64 was, u64 is] (memH nn n ws) K := by
  refine does Tryz.func71 rfl (by decide) ?_
  change Does Tryz.prog 68 _ _ _
  refine memLoad hn at' (fun k x hk hx => ?_) fun h => ?_
  · subst hk
    have hlt := (List.getElem?_eq_some_iff.1 hx).1
    refine brc_intro (fun h => ?_) (fun h => ?_)
    · exact h2 k x rfl hx (by simpa using h)
    · have hxw : x = was := by simpa using h
      refine at2 (by omega) (by omega) (wr1 (rowU x) (by simp [hx]) ?_)
      refine eqx (K := fun r => K (.tup [.c (.f (.bool true)), okC']) [] [.one [.slc 1 0 n none nn], .rows false 1 r]) (h1 k x rfl hx hxw) ?_
      simp
  · exact h0 h

theorem memOf {ro : Bool} {nn : Bool} {l : List Int} {c : Option Nat} (n : Nat) (hl : l.length = n) (hn : n ≤ 300) (h : K (.tup [.c (.ptr 2 0), okC']) [] [.rows ro 1 (l.map rowU), .rows false 1 (l.map rowU), .one [.slc 1 0 n none false]]) :
    Does Tryz.prog 74 [cv (.slc 0 0 n c nn)] [.rows ro 1 (l.map rowU)] K := by
  refine does Tryz.func74 rfl (by decide) ?_
  refine brc_intro (fun h => ?_) (fun _ => ?_)
  · have := of_decide_eq_true h; omega
  have e : (List.take n (List.drop 0 (l.map rowU))) = l.map rowU := by rw [List.drop_zero, List.take_of_length_le]; simp; omega
  refine And.intro (by simp; omega) (And.intro ?_ (And.intro ?_ ?_))
  · rw [e]
    show (l.map rowU).length * 8 ≤ _
    simp; omega
  · rw [e]; simp; omega
  · rw [e]
    have e2 : (l.map rowU).length = n := by simp; exact hl
    rw [e2]
    exact h

end
end Go.Mac
end
