/- latch.Code: the program of a thread that asks for calls. -/
import Derived.Test.YtnkmddcadkcdcaaDoorQCallZ
import Derived.Test.YtnkmddcadkcdcaaDoorGBase
open Go Go.Proofs Go.Mac
set_option maxRecDepth 100000
namespace Go.Mac

def latchIns (p : Int) (c : CallZ) : List InsZ :=
  if c.w = 2 then [⟨6, 1, 0, 0, 0⟩, ⟨11, 1, 0, p + 4, 0⟩, ⟨14, 0, 1, 0, 0⟩, ⟨10, p, 0, 0, 0⟩, ⟨16, 3, 1, 0, 0⟩]
  else [⟨6, 1, 0, 0, 0⟩, ⟨11, 1, 0, p + 9, 0⟩, ⟨3, 2, 1, -1, 0⟩, ⟨9, 3, 0, 1, 2⟩, ⟨11, 3, 0, p, 0⟩, ⟨2, 1, 2, 0, 0⟩, ⟨11, 2, 0, p + 8, 0⟩, ⟨10, p + 9, 0, 0, 0⟩, ⟨15, 0, 16, -1, 0⟩, ⟨16, 3, 1, 0, 0⟩]

/-- The instructions of some calls. -/
def latchU (l : List CallZ) : List InsZ := l.foldl (fun out c => out ++ latchIns out.length c) []
def latchP (l : List CallZ) : List InsZ := latchU l ++ [⟨0, 0, 0, 0, 0⟩]
def latchFit (c : CallZ) : Prop := (c.w = 1 ∨ c.w = 2) ∧ c.n = 0

theorem latchU_take (l : List CallZ) (i : Nat) (c : CallZ) (h : l[i]? = some c) : latchU (l.take (i + 1)) = latchU (l.take i) ++ latchIns (latchU (l.take i)).length c := by
  rw [latchU, List.take_add_one, h, List.foldl_append]
  rfl

theorem latchIns_len (p : Int) (c : CallZ) : (latchIns p c).length ≤ 10 := by
  rw [latchIns]
  split <;> exact Nat.le_of_ble_eq_true rfl

theorem latchU_len (l : List CallZ) : ∀ i, (latchU (l.take i)).length ≤ 10 * i
  | 0 => by simp [latchU]
  | i + 1 => by
    have ih := latchU_len l i
    cases h : l[i]? with
    | none =>
      have : l.take (i + 1) = l.take i := by rw [List.take_add_one, h]; simp
      rw [this]; omega
    | some c =>
      rw [latchU_take l i c h, List.length_append]
      have := latchIns_len (latchU (l.take i)).length c
      omega

section
variable {K : AV → List Nat → List PO → Prop}

theorem latchFits (c : CallZ) (hc : latchFit c) (h : K (bl true) [] []) : Does Tryd.prog 99 [.p (.agg [.f (.int .i64 c.w), .f (.int .i64 c.n)])] [] K := by
  obtain ⟨w, n⟩ := c
  obtain ⟨h1, h2⟩ := hc
  dsimp only at h1 h2
  subst h2
  refine does Tryd.func99 rfl (by decide) ?_
  rcases h1 with rfl | rfl
  · exact h
  · exact h

theorem latchIns' (p : Int) (hp : 0 ≤ p ∧ p ≤ 1000000) (c : CallZ) (h : K (cv (.slc 0 0 (latchIns p c).length none true)) [] [.rows false 5 ((latchIns p c).map rowIns)]) : Does Tryd.prog 100 [i64 p, .p (.agg [.f (.int .i64 c.w), .f (.int .i64 c.n)])] [] K := by
  refine Does.keep 0 rfl ?_
  refine does Tryd.func100 rfl (by decide) ?_
  refine brc_intro (fun hc => ?_) (fun hc => ?_)
  · rw [latchIns, if_pos (beq_iff_eq.1 hc), ← wrap_i64 (p + 4) (by omega) (by omega)] at h
    exact ⟨2, [1], _, cv (.slc 0 0 5 none true), rfl, rfl, by decide, by decide, rfl, rfl, rfl, rfl, rfl, h⟩
  · rw [latchIns, if_neg (beq_eq_false_iff_ne.1 hc), ← wrap_i64 (p + 9) (by omega) (by omega), ← wrap_i64 (p + 8) (by omega) (by omega)] at h
    exact ⟨2, [1], _, cv (.slc 0 0 10 none true), rfl, rfl, by decide, by decide, rfl, rfl, rfl, rfl, rfl, h⟩

theorem latchCode {ro : Bool} {l : List CallZ} (hl : l.length ≤ 12) (hf : ∀ c ∈ l, latchFit c) (h : K (.tup [.c (.slc 1 0 (latchP l).length none false), okP]) [] [.rows ro 2 (l.map rowCallZ), .rows false 5 ((latchP l).map rowIns)]) :
    Does Tryd.prog 74 [cv (.slc 0 0 l.length none false)] [.rows ro 2 (l.map rowCallZ)] K := by
  refine Does.keep 1 rfl ?_
  refine does Tryd.func74 rfl (by decide) ?_
  refine brc_intro (fun h => ?_) (fun _ => ?_)
  · have : (l.length : Int) > 12 := of_decide_eq_true h
    omega
  refine SS.nil 4 5 (by decide) rfl ?_
  refine SS.loop (fun i : Nat => i ≤ l.length) (fun i => [(4, cv (.slc 1 0 (latchU (l.take i)).length none false)), (11, cv (.slc 0 0 l.length none false)), (12, i64 l.length), (13, i64 i)]) (fun i => [.rows ro 2 (l.map rowCallZ), .rows false 5 ((latchU (l.take i)).map rowIns)]) (fun i => l.length - i) [1]
    (At.mk' [4, 11, 12, 13] 0 (by simp) ⟨rfl, rfl⟩ rfl rfl (by simp) (by simp) (by simp)) ?_
  intro i hi
  change i ≤ l.length at hi
  have hul := latchU_len l i
  refine S_r ?_
  refine brc_intro (fun hlt => ?_) (fun hlt => ?_)
  · have hlt : i < l.length := by
      have := of_decide_eq_true hlt
      have : (i : Int) < (l.length : Int) := this
      omega
    obtain ⟨c, hc⟩ : ∃ c, l[i]? = some c := ⟨_, List.getElem?_eq_getElem hlt⟩
    have hu := latchU_take l i c hc
    refine SS.inlR ?_
    refine at2 (a := (0 : Int) ≤ (i : Int)) (b := (i : Int) < (l.length : Int)) (by omega) (by omega) (rdA (rowCallZ c) (show (l.map rowCallZ)[0 + Int.toNat (i : Int)]? = some (rowCallZ c) by simp [hc]) ?_)
    change Does Tryd.prog 99 _ _ _
    refine Does.alone 3 (latchFits c (hf c (List.mem_of_getElem? hc)) ?_)
    change Does Tryd.prog 100 _ _ _
    refine Does.alone 3 (latchIns' (latchU (l.take i)).length (by omega) c ?_)
    have hol := latchIns_len (latchU (l.take i)).length c
    generalize ho : latchIns (latchU (l.take i)).length c = o at *
    have e : List.take o.length (List.drop 0 (o.map rowIns)) = o.map rowIns := by rw [List.drop_zero, List.take_of_length_le (by simp)]
    have e2 : (o.map rowIns).length = o.length := by simp
    refine And.intro (by simp) (Or.inl (And.intro rfl (And.intro (by simp) (And.intro ?_ (And.intro ?_ ?_)))))
    · rw [e, e2]
      show ((latchU (l.take i)).length + o.length) * 40 ≤ _
      omega
    · rw [e, e2]
      omega
    · rw [e, e2]
      refine At.mk' [4, 11, 12, 13] (i + 1) ⟨by show i + 1 ≤ l.length; omega, by omega⟩ ⟨?_, rfl⟩ ?_ rfl (by simp) (by simp) (by decide)
      · rw [wrap_i64 (i + 1) (by omega) (by omega), hu, List.length_append]
        rfl
      · rw [hu, List.map_append]
        rfl
  · have hlt : ¬ (i : Int) < (l.length : Int) := of_decide_eq_false hlt
    obtain rfl : i = l.length := by omega
    rw [List.take_length] at hul ⊢
    refine And.intro (by decide) (Or.inl (And.intro rfl (And.intro (by simp) (And.intro ?_ (And.intro ?_ ?_)))))
    · show ((latchU l).length + 1) * 40 ≤ _
      omega
    · show (latchU l).length + 1 ≤ _
      omega
    · rw [latchP, List.length_append, List.map_append] at h
      exact ⟨3, [0, 1], [.rows ro 2 (l.map rowCallZ), .rows false 5 ((latchU l).map rowIns ++ [rowIns ⟨0, 0, 0, 0, 0⟩])], .tup [.c (.slc 1 0 ((latchU l).length + 1) none false), okP], rfl, rfl, by decide, by decide, rfl, rfl, rfl, rfl, rfl, h⟩

end
end Go.Mac
