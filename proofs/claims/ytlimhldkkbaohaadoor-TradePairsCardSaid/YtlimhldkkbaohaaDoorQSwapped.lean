/- Two who trade; trade.Code as made asks for it. -/
import Derived.Test.YtlimhldkkbaohaaDoorGCutMade
import Derived.Test.YtlimhldkkbaohaaDoorQTrade
import Derived.Test.YtlimhldkkbaohaaDoorGCount
import Derived.Test.YtlimhldkkbaohaaDoorGBase
import Derived.Test.YtlimhldkkbaohaaDoorQAnsEq
open Go Go.Proofs Go.Mac
set_option maxRecDepth 100000
namespace Go.Mac

abbrev swappedL : List (List CallZ) := [[⟨5, 5⟩], [⟨5, 8⟩]]
abbrev swappedP : List (List InsZ) := [tradeP 0 [⟨5, 5⟩], tradeP 1 [⟨5, 8⟩]]
abbrev slots0 : List Int := List.replicate 17 0
abbrev swappedZ : MZ := mz0 swappedP slots0

theorem swapped_ok : ((swappedP.all fun p => rightZ p 17) && finB 100 swappedZ fun m => allZ m && ansL 2 m.el == [[8], [5]]) = true := by decide +kernel

section
variable {K : AV → List Nat → List PO → Prop}

theorem tradeCode' {ls : List (List CallZ)} {ro : Bool} (x : Int) (hx : 0 ≤ x ∧ x < 16) (i : Nat) (l : List CallZ) (hi : ls[i]? = some l) (hl : l.length ≤ 12) (hf : ∀ c ∈ l, tradeFit c) (h : K (.tup [.c (.slc 1 0 (tradeP x l).length none false), okP]) [] [callsH ro ls, .rows false 5 ((tradeP x l).map rowIns)]) :
    Does Tryd.prog 43 [i64 x, cv (.islc 0 i 0 l.length none false)] [callsH ro ls] K := by
  refine Does.row2 (l.map rowCallZ) (by simp [hi]) (by simp) ?_
  refine tradeCode hx hl hf ?_
  exact ⟨by simp; exact .inr rfl, h⟩

theorem swapped (h : K (bl true) [] []) : Does Tryd.prog 41 [] [] K := by
  have hok := swapped_ok
  simp only [Bool.and_eq_true, List.all_eq_true] at hok
  obtain ⟨hr, h2⟩ := hok
  obtain ⟨z, hz⟩ : ∃ z, swappedZ = z := ⟨_, rfl⟩
  rw [hz] at h2
  refine does Tryd.func41 rfl (by decide) ?_
  refine And.intro rfl (And.intro rfl ?_)
  refine And.intro (by decide) (And.intro (by decide) (And.intro (by decide) (And.intro (by decide) ?_)))
  change Does Tryd.prog 35 _ _ _
  refine Does.nilArg4 2 (by decide) ?_
  refine Does.on 5 [2, 3, 4] _ _ (made (ls := swappedL) (ps := swappedP) (ws := slots0) (ms := []) (f := 43) (n := 2) (nc := 17) (k := 0) (ro := false) (ro2 := false) (ro3 := false) rfl rfl rfl rfl (by decide) (by decide) (by decide) hr (by decide) (hz := hz) (fun i l p hl hp K' hK' => ?_) fun v hv hw => ?_)
  · have hi := (List.getElem?_eq_some_iff.1 hl).1
    rcases (show i = 0 ∨ i = 1 by simp at hi; omega) with rfl | rfl
    · obtain rfl := Option.some.inj hl
      obtain rfl := Option.some.inj hp
      exact tradeCode' 0 (by decide) 0 _ rfl (by decide) (fun c hc => by simp at hc; subst hc; simp [tradeFit]) hK'
    · obtain rfl := Option.some.inj hl
      obtain rfl := Option.some.inj hp
      exact tradeCode' 1 (by decide) 1 _ rfl (by decide) (fun c hc => by simp at hc; subst hc; simp [tradeFit]) hK'
  change Does Tryd.prog 37 _ _ _
  refine Does.on 14 [5, 6, 7, 8, 9, 10, 11, 12, 13] _ _ (fairFinish (m := z) (v := v) hw hv fun v1 _ hv1 hw1 => ?_)
  have hf := finB_ok hw h2
  simp only [Bool.and_eq_true, beq_iff_eq] at hf
  obtain ⟨f1, f3⟩ := hf
  generalize finish z = z1 at hw1 f1 f3
  change Does Tryd.prog 40 _ _ _
  refine Does.on 14 [5, 6, 7, 8, 9, 10, 11, 12, 13] _ _ (coreEnds (m := z1) (v := v1) hw1 ?_)
  rw [f1]
  change Does Tryd.prog 38 _ _ _
  refine Does.on 14 [5, 6, 7, 8, 9, 10, 11, 12, 13] _ _ (answers (m := z1) (v := v1) hw1 2 (by decide) ?_)
  rw [f3]
  refine at2 (by decide) (by decide) (Exists.intro ([8].map rowZ) (And.intro rfl ?_))
  change Does Tryd.prog 59 _ _ _
  refine Does.on 16 [14, 15] _ _ (equalRow (xs := [8]) rfl rfl (by decide) ?_)
  refine at2 (by decide) (by decide) (Exists.intro ([5].map rowZ) (And.intro rfl ?_))
  change Does Tryd.prog 59 _ _ _
  refine Does.on 17 [14, 16] _ _ (equalRow (xs := [5]) rfl rfl (by decide) ?_)
  exact h

end
end Go.Mac
