/- Texts that belong together; the first of them: Instructions, moves, and the rows in which they lie. -/
import Derived.Test.YtlimhldkkbaohaaProg
import Derived.Test.YtlimhldkkbaohaaMacC

/- Instructions, moves, and the rows in which they lie. -/
section
open Go Go.Proofs Go.Mac
namespace Go.Mac

structure InsZ where
  op : Int
  a : Int
  b : Int
  c : Int
  d : Int

structure MoveZ where
  th : Int
  pk : Bool

abbrev rowZ (x : Int) : List FC := [.int .i64 x]
abbrev rowU (x : Int) : List FC := [.int .u64 x]
abbrev rowB (x : Int) : List FC := [.int .u8 x]
abbrev rowIns (x : InsZ) : List FC := [.int .i64 x.op, .int .i64 x.a, .int .i64 x.b, .int .i64 x.c, .int .i64 x.d]
abbrev rowMove (x : MoveZ) : List FC := [.int .i64 x.th, .bool x.pk]

theorem follows : Try.prog.follows .mixedOrders = true := by decide +kernel

theorem fin {b : Bool} (h : b = true) : (bl b : AV) = bl true := congrArg bl h

end Go.Mac
end

/- slices.Equal of numbers. -/
section
open Go Go.Proofs Go.Mac
set_option maxRecDepth 100000
namespace Go.Mac

section
variable {K : AV → List Nat → List PO → Prop}

theorem equalInt {ro1 ro2 : Bool} {xs ys : List Int} {c1 c2 : Option Nat} {nn1 nn2 : Bool} (hn : xs.length < 4611686018427387904)
    (h1 : xs = ys → K (bl true) [] [.rows ro1 1 (xs.map rowZ), .rows ro2 1 (ys.map rowZ)]) (h0 : xs ≠ ys → K (bl false) [] [.rows ro1 1 (xs.map rowZ), .rows ro2 1 (ys.map rowZ)]) :
    Does Try.prog 9 [cv (.slc 0 0 xs.length c1 nn1), cv (.slc 1 0 ys.length c2 nn2)] [.rows ro1 1 (xs.map rowZ), .rows ro2 1 (ys.map rowZ)] K := by
  refine does Try.func9 rfl (by decide) ?_
  refine brc_intro (fun h => ?_) (fun h => ?_)
  · refine h0 ?_
    rintro rfl
    simp at h
  have hl : xs.length = ys.length := by simp at h; omega
  refine SS.loop (fun i : Nat => i ≤ xs.length ∧ ∀ j, j < i → xs[j]? = ys[j]?) (fun i => [(0, cv (.slc 0 0 xs.length c1 nn1)), (1, cv (.slc 1 0 ys.length c2 nn2)), (12, i64 xs.length), (13, i64 i)]) (fun _ => [.rows ro1 1 (xs.map rowZ), .rows ro2 1 (ys.map rowZ)]) (fun i => xs.length - i) []
    (At.mk' [0, 1, 12, 13] 0 (by simp) ⟨rfl, rfl⟩ rfl rfl (by simp) (by simp) (by simp)) ?_
  rintro i ⟨hi, hj⟩
  refine S_r ?_
  refine brc_intro (fun h => ?_) (fun h => ?_)
  · have hlt : i < xs.length := by have := of_decide_eq_true h; omega
    refine SS.inlR ?_
    refine SS.drawR follows (by decide) ?_
    obtain ⟨x, hx⟩ : ∃ x, xs[i]? = some x := ⟨_, List.getElem?_eq_getElem hlt⟩
    obtain ⟨y, hy⟩ : ∃ y, ys[i]? = some y := ⟨_, List.getElem?_eq_getElem (by omega)⟩
    refine at2 (by omega) (by omega) (rd1 (rowZ x) (.int .i64 x) (by simp [hx]) rfl ?_)
    refine at2 (by omega) (by omega) (rd1 (rowZ y) (.int .i64 y) (by simp [hy]) rfl ?_)
    refine brc_intro (fun h' => ?_) (fun h' => ?_)
    · refine h0 ?_
      rintro rfl
      rw [hx] at hy
      cases hy
      simp at h'
    · have e : x = y := by simpa using h'
      refine At.mk' [0, 1, 12, 13] (i + 1) ⟨⟨hlt, fun j hj' => ?_⟩, by omega⟩ ⟨?_, rfl⟩ rfl rfl (by simp) (by simp) (by simp)
      · rcases Nat.lt_succ_iff_lt_or_eq.1 hj' with h | rfl
        · exact hj j h
        · rw [hx, hy, e]
      · rw [wrap_i64 _ (by omega) (by omega)]
        rfl
  · have h := of_decide_eq_false h
    refine h1 (List.ext_getElem? fun j => ?_)
    rcases Nat.lt_or_ge j i with h' | h'
    · exact hj j h'
    · rw [List.getElem?_eq_none (by omega), List.getElem?_eq_none (by omega)]

end
end Go.Mac
end

/- pick. -/
section
open Go Go.Proofs Go.Mac
set_option maxRecDepth 100000
namespace Go.Mac

/-- One of n numbers. -/
def pickZ (a n : Int) : Int := a % 18446744073709551616 % n

theorem pickZ_lt (a : Int) {n : Int} (hn : 0 < n) : 0 ≤ pickZ a n ∧ pickZ a n < n := ⟨Int.emod_nonneg _ (by omega), Int.emod_lt_of_pos _ hn⟩

theorem wrap_u64_mod (a : Int) : IntKind.u64.wrap a = a % 18446744073709551616 := by
  simp only [IntKind.wrap, IntKind.bits, IntKind.signed]
  simp

theorem pick {K : AV → List Nat → List PO → Prop} (a n : Int) (hn : 0 < n ∧ n ≤ 4611686018427387904) (hK : K (i64 (pickZ a n)) [] []) : Does Try.prog 5 [i64 a, i64 n] [] K := by
  refine does Try.func5 rfl (by decide) ?_
  refine nonzero_intro (by rw [wrap_u64 n (by omega) (by omega)]; omega) ?_
  refine eqz (K := fun z => K (i64 z) [] []) hK ?_
  have h := pickZ_lt a hn.1
  unfold pickZ at h ⊢
  rw [wrap_u64 n (by omega) (by omega), wrap_u64_mod, Int.tmod_eq_emod_of_nonneg (by omega)]
  exact (wrap_i64 _ (by omega) (by omega)).symm

end Go.Mac
end

/- Lots of threads that sleep. -/
section
open Go Go.Proofs Go.Mac
set_option maxRecDepth 100000
namespace Go.Mac

structure Slp where
  t : Int
  c : Int

abbrev rowS (x : Slp) : List FC := [.int .i64 x.t, .int .i64 x.c]
abbrev errP (n : Int) : PV := .c (.iface 49 (.f (.int .i64 n)))
abbrev okP : PV := .c .niliface

/-- A lot of n: those that sleep, k of them, and what is behind them. -/
abbrev lotH (n : Int) (k : Nat) (nn : Bool) (ss ex : List Slp) : List PO := [.one [.f (.int .i64 n), .slc 1 0 k none nn], .rows false 2 ((ss ++ ex).map rowS)]

/-- The first of a thread. -/
def hasT (ss : List Slp) (t : Int) (i : Nat) (x : Slp) : Prop := ss[i]? = some x ∧ x.t = t ∧ ∀ (j : Nat) (y : Slp), j < i → ss[j]? = some y → y.t ≠ t
def noT (ss : List Slp) (t : Int) : Prop := ∀ x ∈ ss, x.t ≠ t

theorem gm {α β : Type} {f : α → β} {l : List α} {i : Nat} {x : α} (h : l[i]? = some x) : (l.map f)[0 + Int.toNat (i : Int)]? = some (f x) := by simp [h]

theorem noM {M0 : List Nat} : ∀ i ∈ ([] : List Nat), i ∈ M0 := fun _ h => by simp at h

section
variable {K : AV → List Nat → List PO → Prop}

variable {n : Int} {k : Nat} {nn : Bool} {ss ex : List Slp}

/-- Who sleeps at a cell. -/
def atL (c : Int) (ss : List Slp) : List Int := (ss.filter fun x => x.c == c).map (·.t)

theorem atL_succ (c : Int) (ss : List Slp) (i : Nat) (x : Slp) (h : ss[i]? = some x) : atL c (ss.take (i + 1)) = atL c (ss.take i) ++ (if x.c = c then [x.t] else []) := by
  have : ss.take (i + 1) = ss.take i ++ [x] := by rw [List.take_add_one, h]; rfl
  rw [this]
  unfold atL
  rw [List.filter_append, List.map_append]
  congr 1
  by_cases hx : x.c = c <;> simp [hx]

theorem atL_len (c : Int) (ss : List Slp) (i : Nat) : (atL c (ss.take i)).length ≤ i := by
  have h1 := List.length_filter_le (fun x : Slp => x.c == c) (ss.take i)
  have h2 : (ss.take i).length ≤ i := by simp; omega
  unfold atL
  rw [List.length_map]
  omega

end
end Go.Mac
end
