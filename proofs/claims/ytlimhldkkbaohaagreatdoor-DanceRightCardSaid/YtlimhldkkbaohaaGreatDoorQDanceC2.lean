/- Barriers: the programs of Spread and Tourney, and their cells. -/
import Derived.Test.YtlimhldkkbaohaaGreatDoorGDanceF
import Derived.Test.YtlimhldkkbaohaaGreatDoorQDanceB3
open Go Go.Proofs Go.Mac
set_option maxRecDepth 100000
namespace Go.Mac

section
variable {K : AV → List Nat → List PO → Prop}

theorem spreadCode {n id R : Nat} (hn : 1 ≤ n ∧ n ≤ 16) (hid : id < n) (hR : R ≤ 20) (hb : (bodyN (spreadP n id)).length ≤ 10000) (hK : K (.tup [.c (.slc 0 0 (wholeZ R (bodyN (spreadP n id))).length none true), okP]) [] [.rows false 5 ((wholeZ R (bodyN (spreadP n id))).map rowIns)]) :
    Does Tryz.prog 56 [i64 n, i64 id, i64 R] [] K := by
  rw [whole_len] at hK
  refine Does.keep 0 rfl ?_
  refine does Tryz.func56 rfl (by decide) ?_
  change Does Tryz.prog 80 _ _ _
  refine Does.alone 0 (partCheck hn hid hR ?_)
  change Does Tryz.prog 87 _ _ _
  refine Does.alone 0 (spreadBody hn hid ?_)
  change Does Tryz.prog 81 _ _ _
  refine Does.on 1 [0] _ _ (partWhole (b := bodyN (spreadP n id)) (k := (bodyN (spreadP n id)).length) (R := R) rfl hb (by omega) ?_)
  exact ⟨2, [1], [.rows false 5 ((wholeZ R (bodyN (spreadP n id))).map rowIns)], .tup [.c (.slc 0 0 ((bodyN (spreadP n id)).length + 8) none true), okP], rfl, rfl, by decide, by decide, rfl, rfl, rfl, rfl, rfl, hK⟩

theorem tourneyCode {n id R : Nat} (hn : 1 ≤ n ∧ n ≤ 16) (hid : id < n) (hR : R ≤ 20) (hb : (bodyN (tourneyP n id)).length ≤ 10000) (hK : K (.tup [.c (.slc 0 0 (wholeZ R (bodyN (tourneyP n id))).length none true), okP]) [] [.rows false 5 ((wholeZ R (bodyN (tourneyP n id))).map rowIns)]) :
    Does Tryz.prog 58 [i64 n, i64 id, i64 R] [] K := by
  rw [whole_len] at hK
  refine Does.keep 0 rfl ?_
  refine does Tryz.func58 rfl (by decide) ?_
  change Does Tryz.prog 80 _ _ _
  refine Does.alone 0 (partCheck hn hid hR ?_)
  change Does Tryz.prog 88 _ _ _
  refine Does.alone 0 (tourneyBody hn hid ?_)
  change Does Tryz.prog 81 _ _ _
  refine Does.on 1 [0] _ _ (partWhole (b := bodyN (tourneyP n id)) (k := (bodyN (tourneyP n id)).length) (R := R) rfl hb (by omega) ?_)
  exact ⟨2, [1], [.rows false 5 ((wholeZ R (bodyN (tourneyP n id))).map rowIns)], .tup [.c (.slc 0 0 ((bodyN (tourneyP n id)).length + 8) none true), okP], rfl, rfl, by decide, by decide, rfl, rfl, rfl, rfl, rfl, hK⟩

theorem nlev_le {n : Nat} (hn : 1 ≤ n ∧ n ≤ 16) : n * levN n ≤ 16 * 4 := Nat.mul_le_mul hn.2 (lev_le n)

theorem spreadCells {n : Nat} (hn : 1 ≤ n ∧ n ≤ 16) (hK : K (.tup [.c (.f (.int .i64 ((n * levN n : Nat) : Int))), okP]) [] []) : Does Tryz.prog 55 [i64 n] [] K := by
  have hL := nlev_le hn
  rw [show ((n * levN n : Nat) : Int) = IntKind.i64.wrap ((n : Int) * (levN n : Int)) by rw [← Int.natCast_mul, wrap_i64 _ (by omega) (by omega)]] at hK
  refine does Tryz.func55 rfl (by decide) ?_
  change Does Tryz.prog 80 _ _ _
  refine Does.alone 0 (partCheck (id := 0) (R := 0) hn (by omega) (by omega) ?_)
  change Does Tryz.prog 86 _ _ _
  refine Does.alone 0 (levels n (by omega) fun l hl => ?_)
  obtain rfl : l = levN n := isLev_unique hl (lev_is hn)
  exact hK

theorem tourneyCells {n : Nat} (hn : 1 ≤ n ∧ n ≤ 16) (hK : K (.tup [.c (.f (.int .i64 ((n * levN n + n : Nat) : Int))), okP]) [] []) : Does Tryz.prog 57 [i64 n] [] K := by
  have hL := nlev_le hn
  rw [show ((n * levN n + n : Nat) : Int) = IntKind.i64.wrap (IntKind.i64.wrap ((n : Int) * (levN n : Int)) + (n : Int)) by rw [← Int.natCast_mul, wrap_i64 ((n * levN n : Nat) : Int) (by omega) (by omega), wrap_i64 _ (by omega) (by omega)]; omega] at hK
  refine does Tryz.func57 rfl (by decide) ?_
  change Does Tryz.prog 80 _ _ _
  refine Does.alone 0 (partCheck (id := 0) (R := 0) hn (by omega) (by omega) ?_)
  change Does Tryz.prog 86 _ _ _
  refine Does.alone 0 (levels n (by omega) fun l hl => ?_)
  obtain rfl : l = levN n := isLev_unique hl (lev_is hn)
  exact hK

end

theorem kindOk4 {n R : Nat} (hn : 1 ≤ n ∧ n ≤ 16) (hR : R ≤ 20) : KindOk ((4 : Nat) : Int) n R (kindC 4 n) (kindPs 4 n R) :=
  kindOk (by decide) hn (fun K hK => spreadCells (K := K) hn hK) fun id hid hb K hK => by
    rw [bodyP_net (net_pieces (by decide) hn hid)] at hb hK
    exact spreadCode (K := K) hn hid hR hb hK

theorem kindOk5 {n R : Nat} (hn : 1 ≤ n ∧ n ≤ 16) (hR : R ≤ 20) : KindOk ((5 : Nat) : Int) n R (kindC 5 n) (kindPs 5 n R) :=
  kindOk (by decide) hn (fun K hK => tourneyCells (K := K) hn hK) fun id hid hb K hK => by
    rw [bodyP_net (net_pieces (by decide) hn hid)] at hb hK
    exact tourneyCode (K := K) hn hid hR hb hK

end Go.Mac
