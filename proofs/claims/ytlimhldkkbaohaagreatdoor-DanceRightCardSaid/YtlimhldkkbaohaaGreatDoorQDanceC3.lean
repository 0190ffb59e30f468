/- Barriers of all kinds can be made. -/
import Derived.Test.YtlimhldkkbaohaaGreatDoorQDanceB5
open Go Go.Proofs Go.Mac
set_option maxRecDepth 100000
namespace Go.Mac

section
variable {K : AV → List Nat → List PO → Prop}

theorem combineCode {n id R : Nat} (hn : 1 ≤ n ∧ n ≤ 16) (hid : id < n) (hR : R ≤ 20) (hb : (bodyP (combineP n id)).length ≤ 10000) (hK : K (.tup [.c (.slc 0 0 (wholeZ R (bodyP (combineP n id))).length none true), okP]) [] [.rows false 5 ((wholeZ R (bodyP (combineP n id))).map rowIns)]) :
    Does Tryz.prog 52 [i64 n, i64 id, i64 R] [] K := by
  rw [whole_len] at hK
  refine Does.keep 0 rfl ?_
  refine does Tryz.func52 rfl (by decide) ?_
  change Does Tryz.prog 80 _ _ _
  refine Does.alone 0 (partCheck hn hid hR ?_)
  change Does Tryz.prog 84 _ _ _
  refine Does.alone 0 (combineBody hn hid ?_)
  change Does Tryz.prog 81 _ _ _
  refine Does.on 1 [0] _ _ (partWhole (b := bodyP (combineP n id)) (k := (bodyP (combineP n id)).length) (R := R) rfl hb (by omega) ?_)
  exact ⟨2, [1], [.rows false 5 ((wholeZ R (bodyP (combineP n id))).map rowIns)], .tup [.c (.slc 0 0 ((bodyP (combineP n id)).length + 8) none true), okP], rfl, rfl, by decide, by decide, rfl, rfl, rfl, rfl, rfl, hK⟩

theorem combineCells {n : Nat} (hn : 1 ≤ n ∧ n ≤ 16) (hK : K (.tup [.c (.f (.int .i64 ((2 * firstN n (hgtN n) : Nat) : Int))), okP]) [] []) : Does Tryz.prog 51 [i64 n] [] K := by
  have h20 := (path_at hn (show 0 < n by omega) (show 0 < hgtN n from (hgt_le n).1)).2.2.1
  rw [show ((2 * firstN n (hgtN n) : Nat) : Int) = IntKind.i64.wrap (2 * ((firstN n (hgtN n) : Nat) : Int)) by rw [wrap_i64 _ (by omega) (by omega)]; omega] at hK
  refine Does.keep 0 rfl ?_
  refine does Tryz.func51 rfl (by decide) ?_
  change Does Tryz.prog 80 _ _ _
  refine Does.alone 0 (partCheck (id := 0) (R := 0) hn (by omega) (by omega) ?_)
  change Does Tryz.prog 83 _ _ _
  refine Does.alone 0 (combineNodes hn ?_)
  exact ⟨_, [], [], .tup [.c (.f (.int .i64 (IntKind.i64.wrap (2 * ((firstN n (hgtN n) : Nat) : Int))))), okP], rfl, rfl, by decide, by decide, rfl, rfl, rfl, rfl, rfl, hK⟩

end

theorem kindOk2 {n R : Nat} (hn : 1 ≤ n ∧ n ≤ 16) (hR : R ≤ 20) : KindOk ((2 : Nat) : Int) n R (kindC 2 n) (kindPs 2 n R) :=
  kindOk (by decide) hn (fun K hK => combineCells (K := K) hn hK) fun id hid hb K hK => combineCode (K := K) hn hid hR hb hK

/-- Whatever the kind. -/
theorem kindAll {k n R : Nat} (hk : 1 ≤ k ∧ k ≤ 6) (hn : 1 ≤ n ∧ n ≤ 16) (hR : R ≤ 20) : KindOk (k : Int) n R (kindC k n) (kindPs k n R) := by
  have h : k = 1 ∨ k = 2 ∨ k = 3 ∨ k = 4 ∨ k = 5 ∨ k = 6 := by omega
  rcases h with rfl | rfl | rfl | rfl | rfl | rfl
  · exact kindOk1 hn hR
  · exact kindOk2 hn hR
  · exact kindOk3 hn hR
  · exact kindOk4 hn hR
  · exact kindOk5 hn hR
  · exact kindOk6 hn hR

theorem pick6 (k : Int) : ∃ m : Nat, 1 + pickZ k 6 = (m : Int) ∧ 1 ≤ m ∧ m ≤ 6 := by
  have := pickZ_lt k (n := 6) (by decide)
  exact ⟨(1 + pickZ k 6).toNat, by omega, by omega, by omega⟩

end Go.Mac
