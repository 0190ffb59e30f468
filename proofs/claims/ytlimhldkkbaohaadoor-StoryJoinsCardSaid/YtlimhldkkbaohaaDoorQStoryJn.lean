/- Line by line: StoryJoins. -/
import Derived.Test.YtlimhldkkbaohaaDoorQStoryBk
import Derived.Test.YtlimhldkkbaohaaDoorGBase
open Go Go.Proofs Go.Mac
set_option maxRecDepth 100000
namespace Go.Mac

set_option maxHeartbeats 2000000 in
theorem storyJoins (p : List EvZ) (h64 : ∀ x ∈ p, Ev64 x) (_hl : p.length ≤ 9223372036854775807) (k : Int) (_hk : -9223372036854775808 ≤ k ∧ k ≤ 9223372036854775807) :
    Does Tryd.prog 8 [cv (.slc 0 0 p.length none false), i64 k] [.rows true 4 (p.map rowEv), powH, errS, errR, namesH] fun v _ _ => v = bl true := by
  refine does Tryd.func8 rfl (by decide) ?_
  change Does Tryd.prog 28 _ _ _
  refine Does.on 5 [1, 2, 3, 4] _ _ (storied ?_)
  refine brc_intro (fun _ => rfl) (fun h => ?_)
  have hl : p.length ≤ 100 := by
    have := of_decide_eq_false h
    omega
  change Does Tryd.prog 29 _ _ _
  refine Does.on 5 [0] _ _ (storyRight (all := p) (es := p) (n := p.length) rfl (fun i _ => by rw [Nat.zero_add]) (by omega) ?_)
  cases hr : rightE 0 p with
  | false => rfl
  | true =>
    have wr : IntKind.i64.wrap ((p.length : Int) + 1) = ((p.length + 1 : Nat) : Int) := wrap_i64 _ (by omega) (by omega)
    change Does Tryd.prog 18 _ _ _
    rw [wr]
    refine Does.alone 5 (pick k ((p.length + 1 : Nat) : Int) (by omega) ?_)
    obtain ⟨j, hj, hjn⟩ : ∃ j : Nat, pickZ k ((p.length + 1 : Nat) : Int) = (j : Int) ∧ j ≤ p.length := by
      have := pickZ_lt k (show (0 : Int) < ((p.length + 1 : Nat) : Int) by omega)
      exact ⟨(pickZ k ((p.length + 1 : Nat) : Int)).toNat, by omega, by omega⟩
    rw [hj]
    have r1 := right_take hr j
    have r2 := right_drop hr j
    have hj0 : (0 : Int) ≤ (j : Int) := by omega
    have hj1 : (j : Int) ≤ ((p.length : Nat) : Int) := by omega
    refine Or.inl (And.intro hj0 (And.intro hj1 ?_))
    change Does Tryd.prog 30 _ _ _
    refine Does.on 5 [1, 4, 0] _ _ (storyPrint (all := p) (es := p.take j) (n := j - 0) (o := 0 + 0) (by simp; omega) (fun i hi => by rw [List.getElem?_take_of_lt (by omega)]; simp) (by omega) (fun x hx => h64 x (List.mem_of_mem_take hx)) (fun _ => ?_) fun h => absurd (r1.symm.trans h) (by decide))
    refine Or.inl (And.intro hj0 (And.intro hj1 ?_))
    change Does Tryd.prog 30 _ _ _
    refine Does.on 5 [1, 4, 0] _ _ (storyPrint (all := p) (es := p.drop j) (n := p.length - j) (o := 0 + j) (by simp) (fun i hi => by rw [List.getElem?_drop, Nat.zero_add]) (by omega) (fun x hx => h64 x (List.mem_of_mem_drop hx)) (fun _ => ?_) fun h => absurd (r2.symm.trans h) (by decide))
    change Does Tryd.prog 30 _ _ _
    refine Does.on 5 [1, 4, 0] _ _ (storyPrint (all := p) (es := p) (n := p.length) (o := 0) rfl (fun i _ => by rw [Nat.zero_add]) (by omega) h64 (fun _ => ?_) fun h => absurd (hr.symm.trans h) (by decide))
    have l1 := printS_len (p.take j) fun x hx => h64 x (List.mem_of_mem_take hx)
    have l2 := printS_len (p.drop j) fun x hx => h64 x (List.mem_of_mem_drop hx)
    rw [List.length_take] at l1
    rw [List.length_drop] at l2
    refine And.intro (by omega) ?_
    have e : printS (p.take j) ++ printS (p.drop j) = printS p := by rw [← printS_app, List.take_append_drop]
    show bl (printS (p.take j) ++ printS (p.drop j) == printS p) = bl true
    rw [e]
    simp

end Go.Mac
