/- Lots: who sleeps elsewhere sleeps on. -/
import Derived.Test.YteblgbclhaajpaaQParkBed
open Go Go.Proofs Go.Mac
set_option maxRecDepth 100000
namespace Go.Mac

theorem atL_cons (c : Int) (x : Slp) (ss : List Slp) : atL c (x :: ss) = (if x.c = c then [x.t] else []) ++ atL c ss := by
  unfold atL
  by_cases h : x.c = c
  · rw [List.filter_cons_of_pos (by simpa using h), if_pos h]
    rfl
  · rw [List.filter_cons_of_neg (by simpa using h), if_neg h]
    rfl

theorem wakeL_apart (c n o : Int) (ho : c ≠ o) : ∀ (ss : List Slp) (m : Nat), atL o (wakeL c n m ss).2 = atL o ss
  | [], m => rfl
  | x :: ss, m => by
    rw [wakeL]
    split
    · rename_i h
      have : x.c ≠ o := fun e => ho (by omega)
      rw [atL_cons, if_neg this, wakeL_apart c n o ho ss]
      rfl
    · show atL o (x :: (wakeL c n m ss).2) = _
      rw [atL_cons, atL_cons, wakeL_apart c n o ho ss]

theorem atL_le (c : Int) (ss : List Slp) : (atL c ss).length ≤ ss.length := by
  have := atL_len c ss ss.length
  rwa [List.take_length] at this

theorem parkApart (l : List NodZ) (c : Int) (_hc : -9223372036854775808 ≤ c ∧ c ≤ 9223372036854775807) (o : Int) (_ho : -9223372036854775808 ≤ o ∧ o ≤ 9223372036854775807) (n : Int) (_hn : -9223372036854775808 ≤ n ∧ n ≤ 9223372036854775807) :
    Does Try.prog 9 [cv (.slc 0 0 l.length none false), i64 c, i64 o, i64 n] [.rows true 3 (l.map rowNodZ)] fun v _ _ => v = bl true := by
  refine does Try.func9 rfl (by decide) ?_
  change Does Try.prog 19 _ _ _
  refine Does.alone 1 (asleep ?_)
  refine brc_intro (fun _ => fin rfl) (fun h => ?_)
  have hl : l.length ≤ 60 := by have := of_decide_eq_false h; omega
  change Does Try.prog 20 _ _ _
  refine bed l hl fun nn ex hex => ?_
  have hb := bedL_len l l.length
  rw [List.take_length] at hb
  generalize bedL l = ss at *
  change Does Try.prog 18 _ _ _
  refine Does.alone 3 (pick c 4 (by decide) ?_)
  change Does Try.prog 18 _ _ _
  refine Does.alone 3 (pick o 4 (by decide) ?_)
  generalize pickZ c 4 = c
  generalize pickZ o 4 = o
  change Does Try.prog 21 _ _ _
  refine Does.on 3 [1, 2] _ _ (lotAt (n := 16) (k := ss.length) (nn := nn) (ss := ss) (ex := ex) o rfl (by omega) ?_)
  change Does Try.prog 22 _ _ _
  refine Does.on 4 [1, 2] _ _ (lotWake (n := 16) (k := ss.length) (nn := nn) (ss := ss) (ex := ex) (out := (wakeL c n 0 ss).1) (kept := (wakeL c n 0 ss).2) c n rfl rfl (by omega) hex (fun n4 b4 e4 he4 => ?_))
  have hw := wakeL_len c n ss 0
  refine brc_intro (fun _ => fin rfl) (fun h => ?_)
  have hco : c ≠ o := by simpa using h
  change Does Try.prog 21 _ _ _
  refine Does.on 8 [1, 2] _ _ (lotAt (n := 16) (k := (wakeL c n 0 ss).2.length) (nn := n4) (ss := (wakeL c n 0 ss).2) (ex := e4) o rfl (by omega) ?_)
  change Does Try.prog 23 _ _ _
  have ha := atL_le o (wakeL c n 0 ss).2
  refine Does.on 9 [8, 3] _ _ (equalInt (xs := atL o (wakeL c n 0 ss).2) (ys := atL o ss) (ro1 := false) (ro2 := false) (by omega) (fun _ => fin rfl) fun h => absurd (wakeL_apart c n o hco ss 0) h)

end Go.Mac
