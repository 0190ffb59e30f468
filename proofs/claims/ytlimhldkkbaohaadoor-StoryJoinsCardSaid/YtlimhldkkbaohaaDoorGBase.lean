/- Texts that belong together; the first of them: Instructions, moves, and the rows in which they lie. -/
import Derived.Test.YtlimhldkkbaohaaDoorProg
import Derived.Test.YtlimhldkkbaohaaDoorMacC

/- Instructions, moves, and the rows in which they lie. -/
section
open Go Go.Proofs Go.Mac
namespace Go.Mac

structure InsZ where
  op : Int
  a : Int
  b : Int
  c : Int
  d : Int

structure MoveZ where
  th : Int
  pk : Bool

abbrev rowZ (x : Int) : List FC := [.int .i64 x]
abbrev rowU (x : Int) : List FC := [.int .u64 x]
abbrev rowB (x : Int) : List FC := [.int .u8 x]
abbrev rowIns (x : InsZ) : List FC := [.int .i64 x.op, .int .i64 x.a, .int .i64 x.b, .int .i64 x.c, .int .i64 x.d]
abbrev rowMove (x : MoveZ) : List FC := [.int .i64 x.th, .bool x.pk]

theorem follows : Tryd.prog.follows .mixedOrders = true := by decide +kernel

theorem fin {b : Bool} (h : b = true) : (bl b : AV) = bl true := congrArg bl h

end Go.Mac
end

/- slices.Equal of numbers. -/
section
open Go Go.Proofs Go.Mac
set_option maxRecDepth 100000
namespace Go.Mac

section
variable {K : AV → List Nat → List PO → Prop}

theorem equalInt {ro1 ro2 : Bool} {xs ys : List Int} {c1 c2 : Option Nat} {nn1 nn2 : Bool} (hn : xs.length < 4611686018427387904)
    (h1 : xs = ys → K (bl true) [] [.rows ro1 1 (xs.map rowZ), .rows ro2 1 (ys.map rowZ)]) (h0 : xs ≠ ys → K (bl false) [] [.rows ro1 1 (xs.map rowZ), .rows ro2 1 (ys.map rowZ)]) :
    Does Tryd.prog 59 [cv (.slc 0 0 xs.length c1 nn1), cv (.slc 1 0 ys.length c2 nn2)] [.rows ro1 1 (xs.map rowZ), .rows ro2 1 (ys.map rowZ)] K := by
  refine does Tryd.func59 rfl (by decide) ?_
  refine brc_intro (fun h => ?_) (fun h => ?_)
  · refine h0 ?_
    rintro rfl
    simp at h
  have hl : xs.length = ys.length := by simp at h; omega
  refine SS.loop (fun i : Nat => i ≤ xs.length ∧ ∀ j, j < i → xs[j]? = ys[j]?) (fun i => [(0, cv (.slc 0 0 xs.length c1 nn1)), (1, cv (.slc 1 0 ys.length c2 nn2)), (12, i64 xs.length), (13, i64 i)]) (fun _ => [.rows ro1 1 (xs.map rowZ), .rows ro2 1 (ys.map rowZ)]) (fun i => xs.length - i) []
    (At.mk' [0, 1, 12, 13] 0 (by simp) ⟨rfl, rfl⟩ rfl rfl (by simp) (by simp) (by simp)) ?_
  rintro i ⟨hi, hj⟩
  refine S_r ?_
  refine brc_intro (fun h => ?_) (fun h => ?_)
  · have hlt : i < xs.length := by have := of_decide_eq_true h; omega
    refine SS.inlR ?_
    refine SS.drawR follows (by decide) ?_
    obtain ⟨x, hx⟩ : ∃ x, xs[i]? = some x := ⟨_, List.getElem?_eq_getElem hlt⟩
    obtain ⟨y, hy⟩ : ∃ y, ys[i]? = some y := ⟨_, List.getElem?_eq_getElem (by omega)⟩
    refine at2 (by omega) (by omega) (rd1 (rowZ x) (.int .i64 x) (by simp [hx]) rfl ?_)
    refine at2 (by omega) (by omega) (rd1 (rowZ y) (.int .i64 y) (by simp [hy]) rfl ?_)
    refine brc_intro (fun h' => ?_) (fun h' => ?_)
    · refine h0 ?_
      rintro rfl
      rw [hx] at hy
      cases hy
      simp at h'
    · have e : x = y := by simpa using h'
      refine At.mk' [0, 1, 12, 13] (i + 1) ⟨⟨hlt, fun j hj' => ?_⟩, by omega⟩ ⟨?_, rfl⟩ rfl rfl (by simp) (by simp) (by simp)
      · rcases Nat.lt_succ_iff_lt_or_eq.1 hj' with h | rfl
        · exact hj j h
        · rw [hx, hy, e]
      · rw [wrap_i64 _ (by omega) (by omega)]
        rfl
  · have h := of_decide_eq_false h
    refine h1 (List.ext_getElem? fun j => ?_)
    rcases Nat.lt_or_ge j i with h' | h'
    · exact hj j h'
    · rw [List.getElem?_eq_none (by omega), List.getElem?_eq_none (by omega)]

end
end Go.Mac
end

/- pick. -/
section
open Go Go.Proofs Go.Mac
set_option maxRecDepth 100000
namespace Go.Mac

/-- One of n numbers. -/
def pickZ (a n : Int) : Int := a % 18446744073709551616 % n

theorem pickZ_lt (a : Int) {n : Int} (hn : 0 < n) : 0 ≤ pickZ a n ∧ pickZ a n < n := ⟨Int.emod_nonneg _ (by omega), Int.emod_lt_of_pos _ hn⟩

theorem wrap_u64_mod (a : Int) : IntKind.u64.wrap a = a % 18446744073709551616 := by
  simp only [IntKind.wrap, IntKind.bits, IntKind.signed]
  simp

theorem pick {K : AV → List Nat → List PO → Prop} (a n : Int) (hn : 0 < n ∧ n ≤ 4611686018427387904) (hK : K (i64 (pickZ a n)) [] []) : Does Tryd.prog 18 [i64 a, i64 n] [] K := by
  refine does Tryd.func18 rfl (by decide) ?_
  refine nonzero_intro (by rw [wrap_u64 n (by omega) (by omega)]; omega) ?_
  refine eqz (K := fun z => K (i64 z) [] []) hK ?_
  have h := pickZ_lt a hn.1
  unfold pickZ at h ⊢
  rw [wrap_u64 n (by omega) (by omega), wrap_u64_mod, Int.tmod_eq_emod_of_nonneg (by omega)]
  exact (wrap_i64 _ (by omega) (by omega)).symm

end Go.Mac
end

/- Lots of threads that sleep. -/
section
open Go Go.Proofs Go.Mac
set_option maxRecDepth 100000
namespace Go.Mac

structure Slp where
  t : Int
  c : Int

abbrev rowS (x : Slp) : List FC := [.int .i64 x.t, .int .i64 x.c]
abbrev errP (n : Int) : PV := .c (.iface 115 (.f (.int .i64 n)))
abbrev okP : PV := .c .niliface

/-- A lot of n: those that sleep, k of them, and what is behind them. -/
abbrev lotH (n : Int) (k : Nat) (nn : Bool) (ss ex : List Slp) : List PO := [.one [.f (.int .i64 n), .slc 1 0 k none nn], .rows false 2 ((ss ++ ex).map rowS)]

/-- The first of a thread. -/
def hasT (ss : List Slp) (t : Int) (i : Nat) (x : Slp) : Prop := ss[i]? = some x ∧ x.t = t ∧ ∀ (j : Nat) (y : Slp), j < i → ss[j]? = some y → y.t ≠ t
def noT (ss : List Slp) (t : Int) : Prop := ∀ x ∈ ss, x.t ≠ t

theorem gm {α β : Type} {f : α → β} {l : List α} {i : Nat} {x : α} (h : l[i]? = some x) : (l.map f)[0 + Int.toNat (i : Int)]? = some (f x) := by simp [h]

theorem noM {M0 : List Nat} : ∀ i ∈ ([] : List Nat), i ∈ M0 := fun _ h => by simp at h

section
variable {K : AV → List Nat → List PO → Prop}

theorem find1 (x : Slp) (t : Int) (h : K (bl (x.t == t)) [] [.one [.f (.int .i64 t)]]) : Does Tryd.prog 141 [.p (.agg [.f (.int .i64 x.t), .f (.int .i64 x.c)]), cv (.ptr 0 0)] [.one [.f (.int .i64 t)]] K := by
  refine does Tryd.func141 rfl (by decide) ?_
  exact h

theorem indexSlp {ss all : List Slp} {c : Option Nat} {nn ro : Bool} (t : Int) (k : Nat) (hk : ss.length = k) (hn : k < 4611686018427387904) (hall : ∀ i, i < k → all[i]? = ss[i]?)
    (h1 : ∀ (i : Nat) (x : Slp), hasT ss t i x → K (i64 i) [] [.rows ro 2 (all.map rowS), .one [.f (.int .i64 t)]]) (h0 : noT ss t → K (i64 (-1)) [] [.rows ro 2 (all.map rowS), .one [.f (.int .i64 t)]]) :
    Does Tryd.prog 140 [cv (.slc 0 0 k c nn), cv (.func 141 [1])] [.rows ro 2 (all.map rowS), .one [.f (.int .i64 t)]] K := by
  refine does Tryd.func140 rfl (by decide) ?_
  refine SS.loop (fun i : Nat => i ≤ k ∧ ∀ (j : Nat) (y : Slp), j < i → ss[j]? = some y → y.t ≠ t) (fun i => [(0, cv (.slc 0 0 k c nn)), (1, cv (.func 141 [1])), (7, i64 k), (8, i64 i)]) (fun _ => [.rows ro 2 (all.map rowS), .one [.f (.int .i64 t)]]) (fun i => k - i) []
    (At.mk' [0, 1, 7, 8] 0 (by simp) ⟨rfl, rfl⟩ rfl rfl (by simp) (by simp) (by simp)) ?_
  rintro i ⟨hi, hj⟩
  refine S_r ?_
  refine brc_intro (fun h => ?_) (fun h => ?_)
  · have hlt : i < k := by have := of_decide_eq_true h; omega
    obtain ⟨x, hx⟩ : ∃ x, ss[i]? = some x := ⟨_, List.getElem?_eq_getElem (by omega)⟩
    have hax := (hall i hlt).trans hx
    refine SS.inlR ?_
    refine at2 (by omega) (by omega) (rdA (rowS x) (by simp [hax]) ?_)
    change Does Tryd.prog 141 _ _ _
    refine Does.on 2 [1] _ _ (find1 x t ?_)
    refine brc_intro (fun h' => ?_) (fun h' => ?_)
    · exact h1 i x ⟨hx, by simpa using h', hj⟩
    · have e : x.t ≠ t := by simpa using h'
      refine At.mk' [0, 1, 7, 8] (i + 1) ⟨⟨hlt, fun j y hj' hy => ?_⟩, by omega⟩ ⟨?_, rfl⟩ rfl rfl (by simp) (by simp) (by simp)
      · rcases Nat.lt_succ_iff_lt_or_eq.1 hj' with h | rfl
        · exact hj j y h hy
        · rw [hx] at hy; cases hy; exact e
      · rw [wrap_i64 _ (by omega) (by omega)]
        rfl
  · have h := of_decide_eq_false h
    refine h0 fun x hx => ?_
    obtain ⟨j, hj'⟩ := List.mem_iff_getElem?.1 hx
    have := (List.getElem?_eq_some_iff.1 hj').1
    exact hj j x (by omega) hj'

variable {n : Int} {k : Nat} {nn : Bool} {ss ex : List Slp}

theorem lotFind (t : Int) (hk : ss.length = k) (hn : k < 4611686018427387904) (h1 : ∀ (i : Nat) (x : Slp), hasT ss t i x → K (i64 i) [] (lotH n k nn ss ex)) (h0 : noT ss t → K (i64 (-1)) [] (lotH n k nn ss ex)) :
    Does Tryd.prog 116 [cv (.ptr 0 0), i64 t] (lotH n k nn ss ex) K := by
  refine does Tryd.func116 rfl (by decide) ?_
  change Does Tryd.prog 140 _ _ _
  refine Does.on 3 [1, 2] _ _ (indexSlp (ss := ss) (all := ss ++ ex) t k hk hn (fun i hi => List.getElem?_append_left (by omega)) (fun i x h => ?_) fun h => ?_)
  · exact h1 i x h
  · exact h0 h

theorem lotCell (t : Int) (hk : ss.length = k) (hn : k < 4611686018427387904) (h1 : ∀ (i : Nat) (x : Slp), hasT ss t i x → K (i64 x.c) [] (lotH n k nn ss ex)) (h0 : noT ss t → K (i64 (-1)) [] (lotH n k nn ss ex)) :
    Does Tryd.prog 90 [cv (.ptr 0 0), i64 t] (lotH n k nn ss ex) K := by
  refine does Tryd.func90 rfl (by decide) ?_
  change Does Tryd.prog 116 _ _ _
  refine lotFind t hk hn (fun i x h => ?_) fun h => ?_
  · have hlt := (List.getElem?_eq_some_iff.1 h.1).1
    have hx : (ss ++ ex)[i]? = some x := (List.getElem?_append_left hlt).trans h.1
    refine at2 (by omega) (by omega) (rd1 (rowS x) (.int .i64 x.c) (gm hx) rfl ?_)
    exact h1 i x h
  · exact h0 h

theorem lotNew (n : Nat) (hn : n ≤ 16) (h : K (.tup [.c (.ptr 0 0), okP]) [] [.one [.f (.int .i64 n), .nilslc]]) : Does Tryd.prog 108 [i64 n] [] K := by
  refine does Tryd.func108 rfl (by decide) ?_
  refine brc_intro (fun h => ?_) (fun _ => ?_)
  · have := of_decide_eq_true h; omega
  · exact h

theorem lotSleep (t c : Int) (ht : 0 ≤ t ∧ t < n) (hc : 0 ≤ c ∧ c < 300) (hk : ss.length = k) (hn : k < 1000000) (hex : ex ≠ [] → nn = true)
    (h1 : noT ss t → ∀ (nn' : Bool) (ex' : List Slp), (ex' ≠ [] → nn' = true) → K (cv .niliface) [1] (lotH n (k + 1) nn' (ss ++ [⟨t, c⟩]) ex')) (h0 : ∀ (i : Nat) (x : Slp), hasT ss t i x → K (.p (errP 6)) [1] (lotH n k nn ss ex)) :
    Does Tryd.prog 121 [cv (.ptr 0 0), i64 t, i64 c] (lotH n k nn ss ex) K := by
  refine Does.moved [1] ?_
  refine does Tryd.func121 rfl (by decide) ?_
  refine brc_intro (fun h => ?_) (fun _ => ?_)
  · have := of_decide_eq_true h; omega
  refine brc_intro (fun h => ?_) (fun _ => ?_)
  · have := of_decide_eq_true h; omega
  refine brc_intro (fun h => ?_) (fun _ => ?_)
  · have := of_decide_eq_true h; omega
  refine brc_intro (fun h => ?_) (fun _ => ?_)
  · have := of_decide_eq_true h; omega
  change Does Tryd.prog 116 _ _ _
  refine lotFind t hk (by omega) (fun i x h => ?_) fun h => ?_
  · exact ⟨noM, h0 i x h⟩
  · have hk1 := h1 h
    clear h1 h0
    refine And.intro (by simp) ?_
    cases ex with
    | nil =>
      refine Or.inl (And.intro rfl (And.intro (by simp; omega) (And.intro ?_ (And.intro ?_ ?_))))
      · show (k + 1) * 16 ≤ _
        omega
      · show k + 1 ≤ _
        omega
      · refine And.intro (fun i hi => hi) ?_
        refine eqx (K := fun r => K (cv .niliface) [1] [.one [.f (.int .i64 n), .slc 1 0 (k + 1) none nn], .rows false 2 r]) (hk1 nn [] (by simp)) ?_
        simp
    | cons y ex =>
      obtain rfl := hex (by simp)
      refine Or.inr (And.intro rfl (And.intro rfl (And.intro ?_ ?_)))
      · show 0 + k + 1 ≤ _
        simp; omega
      · refine And.intro noM ?_
        refine eqx (K := fun r => K (cv .niliface) [1] [.one [.f (.int .i64 n), .slc 1 0 (k + 1) none true], .rows false 2 r]) (hk1 true ex (fun _ => rfl)) ?_
        show ((ss ++ [(⟨t, c⟩ : Slp)]) ++ ex).map rowS = (((ss ++ y :: ex).map rowS).take (0 + k) ++ [rowS ⟨t, c⟩]) ++ ((ss ++ y :: ex).map rowS).drop (0 + k + 1)
        subst hk
        simp [List.drop_append]

/-- Who sleeps at a cell. -/
def atL (c : Int) (ss : List Slp) : List Int := (ss.filter fun x => x.c == c).map (·.t)

theorem atL_succ (c : Int) (ss : List Slp) (i : Nat) (x : Slp) (h : ss[i]? = some x) : atL c (ss.take (i + 1)) = atL c (ss.take i) ++ (if x.c = c then [x.t] else []) := by
  have : ss.take (i + 1) = ss.take i ++ [x] := by rw [List.take_add_one, h]; rfl
  rw [this]
  unfold atL
  rw [List.filter_append, List.map_append]
  congr 1
  by_cases hx : x.c = c <;> simp [hx]

theorem atL_len (c : Int) (ss : List Slp) (i : Nat) : (atL c (ss.take i)).length ≤ i := by
  have h1 := List.length_filter_le (fun x : Slp => x.c == c) (ss.take i)
  have h2 : (ss.take i).length ≤ i := by simp; omega
  unfold atL
  rw [List.length_map]
  omega

end
end Go.Mac
end
