/- sema.Code: the program of a thread that asks for calls. -/
import Derived.Test.YtnkmddcadkcdcaaDoorQCallZ
import Derived.Test.YtnkmddcadkcdcaaDoorGBase
open Go Go.Proofs Go.Mac
set_option maxRecDepth 100000
namespace Go.Mac

def semaIns (p : Int) (c : CallZ) : List InsZ :=
  if c.w = 4 then [⟨8, 1, 0, 1, 0⟩, ⟨3, 2, 1, 1, 0⟩, ⟨15, 0, 1, -1, 0⟩, ⟨16, 3, 2, 0, 0⟩]
  else [⟨6, 1, 0, 0, 0⟩, ⟨11, 1, 0, p + 6, 0⟩, ⟨3, 2, 1, -1, 0⟩, ⟨9, 3, 0, 1, 2⟩, ⟨11, 3, 0, p, 0⟩, ⟨10, p + 8, 0, 0, 0⟩, ⟨14, 0, 1, 0, 0⟩, ⟨10, p, 0, 0, 0⟩, ⟨16, 3, 2, 0, 0⟩]

/-- The instructions of some calls. -/
def semaU (l : List CallZ) : List InsZ := l.foldl (fun out c => out ++ semaIns out.length c) []
def semaP (l : List CallZ) : List InsZ := semaU l ++ [⟨0, 0, 0, 0, 0⟩]
def semaFit (c : CallZ) : Prop := (c.w = 3 ∨ c.w = 4) ∧ c.n = 0

theorem semaU_take (l : List CallZ) (i : Nat) (c : CallZ) (h : l[i]? = some c) : semaU (l.take (i + 1)) = semaU (l.take i) ++ semaIns (semaU (l.take i)).length c := by
  rw [semaU, List.take_add_one, h, List.foldl_append]
  rfl

theorem semaIns_len (p : Int) (c : CallZ) : (semaIns p c).length ≤ 9 := by
  rw [semaIns]
  split <;> exact Nat.le_of_ble_eq_true rfl

theorem semaU_len (l : List CallZ) : ∀ i, (semaU (l.take i)).length ≤ 9 * i
  | 0 => by simp [semaU]
  | i + 1 => by
    have ih := semaU_len l i
    cases h : l[i]? with
    | none =>
      have : l.take (i + 1) = l.take i := by rw [List.take_add_one, h]; simp
      rw [this]; omega
    | some c =>
      rw [semaU_take l i c h, List.length_append]
      have := semaIns_len (semaU (l.take i)).length c
      omega

section
variable {K : AV → List Nat → List PO → Prop}

theorem semaFits (c : CallZ) (hc : semaFit c) (h : K (bl true) [] []) : Does Tryd.prog 97 [.p (.agg [.f (.int .i64 c.w), .f (.int .i64 c.n)])] [] K := by
  obtain ⟨w, n⟩ := c
  obtain ⟨h1, h2⟩ := hc
  dsimp only at h1 h2
  subst h2
  refine does Tryd.func97 rfl (by decide) ?_
  rcases h1 with rfl | rfl
  · exact h
  · exact h

theorem semaIns' (p : Int) (hp : 0 ≤ p ∧ p ≤ 1000000) (c : CallZ) (h : K (cv (.slc 0 0 (semaIns p c).length none true)) [] [.rows false 5 ((semaIns p c).map rowIns)]) : Does Tryd.prog 98 [i64 p, .p (.agg [.f (.int .i64 c.w), .f (.int .i64 c.n)])] [] K := by
  refine Does.keep 0 rfl ?_
  refine does Tryd.func98 rfl (by decide) ?_
  refine brc_intro (fun hc => ?_) (fun hc => ?_)
  · rw [semaIns, if_pos (beq_iff_eq.1 hc)] at h
    exact ⟨2, [1], _, cv (.slc 0 0 4 none true), rfl, rfl, by decide, by decide, rfl, rfl, rfl, rfl, rfl, h⟩
  · rw [semaIns, if_neg (beq_eq_false_iff_ne.1 hc), ← wrap_i64 (p + 6) (by omega) (by omega), ← wrap_i64 (p + 8) (by omega) (by omega)] at h
    exact ⟨2, [1], _, cv (.slc 0 0 9 none true), rfl, rfl, by decide, by decide, rfl, rfl, rfl, rfl, rfl, h⟩

theorem semaCode {l : List CallZ} (hl : l.length ≤ 12) (hf : ∀ c ∈ l, semaFit c) (h : K (.tup [.c (.slc 1 0 (semaP l).length none false), okP]) [] [.rows true 2 (l.map rowCallZ), .rows false 5 ((semaP l).map rowIns)]) :
    Does Tryd.prog 73 [cv (.slc 0 0 l.length none false)] [.rows true 2 (l.map rowCallZ)] K := by
  refine Does.keep 1 rfl ?_
  refine does Tryd.func73 rfl (by decide) ?_
  refine brc_intro (fun h => ?_) (fun _ => ?_)
  · have : (l.length : Int) > 12 := of_decide_eq_true h
    omega
  refine SS.nil 4 5 (by decide) rfl ?_
  refine SS.loop (fun i : Nat => i ≤ l.length) (fun i => [(4, cv (.slc 1 0 (semaU (l.take i)).length none false)), (11, cv (.slc 0 0 l.length none false)), (12, i64 l.length), (13, i64 i)]) (fun i => [.rows true 2 (l.map rowCallZ), .rows false 5 ((semaU (l.take i)).map rowIns)]) (fun i => l.length - i) [1]
    (At.mk' [4, 11, 12, 13] 0 (by simp) ⟨rfl, rfl⟩ rfl rfl (by simp) (by simp) (by simp)) ?_
  intro i hi
  change i ≤ l.length at hi
  have hul := semaU_len l i
  refine S_r ?_
  refine brc_intro (fun hlt => ?_) (fun hlt => ?_)
  · have hlt : i < l.length := by
      have := of_decide_eq_true hlt
      have : (i : Int) < (l.length : Int) := this
      omega
    obtain ⟨c, hc⟩ : ∃ c, l[i]? = some c := ⟨_, List.getElem?_eq_getElem hlt⟩
    have hu := semaU_take l i c hc
    refine SS.inlR ?_
    refine at2 (a := (0 : Int) ≤ (i : Int)) (b := (i : Int) < (l.length : Int)) (by omega) (by omega) (rdA (rowCallZ c) (show (l.map rowCallZ)[0 + Int.toNat (i : Int)]? = some (rowCallZ c) by simp [hc]) ?_)
    change Does Tryd.prog 97 _ _ _
    refine Does.alone 3 (semaFits c (hf c (List.mem_of_getElem? hc)) ?_)
    change Does Tryd.prog 98 _ _ _
    refine Does.alone 3 (semaIns' (semaU (l.take i)).length (by omega) c ?_)
    have hol := semaIns_len (semaU (l.take i)).length c
    generalize ho : semaIns (semaU (l.take i)).length c = o at *
    have e : List.take o.length (List.drop 0 (o.map rowIns)) = o.map rowIns := by rw [List.drop_zero, List.take_of_length_le (by simp)]
    have e2 : (o.map rowIns).length = o.length := by simp
    refine And.intro (by simp) (Or.inl (And.intro rfl (And.intro (by simp) (And.intro ?_ (And.intro ?_ ?_)))))
    · rw [e, e2]
      show ((semaU (l.take i)).length + o.length) * 40 ≤ _
      omega
    · rw [e, e2]
      omega
    · rw [e, e2]
      refine At.mk' [4, 11, 12, 13] (i + 1) ⟨by show i + 1 ≤ l.length; omega, by omega⟩ ⟨?_, rfl⟩ ?_ rfl (by simp) (by simp) (by decide)
      · rw [wrap_i64 (i + 1) (by omega) (by omega), hu, List.length_append]
        rfl
      · rw [hu, List.map_append]
        rfl
  · have hlt : ¬ (i : Int) < (l.length : Int) := of_decide_eq_false hlt
    obtain rfl : i = l.length := by omega
    rw [List.take_length] at hul ⊢
    refine And.intro (by decide) (Or.inl (And.intro rfl (And.intro (by simp) (And.intro ?_ (And.intro ?_ ?_)))))
    · show ((semaU l).length + 1) * 40 ≤ _
      omega
    · show (semaU l).length + 1 ≤ _
      omega
    · rw [semaP, List.length_append, List.map_append] at h
      exact ⟨3, [0, 1], [.rows true 2 (l.map rowCallZ), .rows false 5 ((semaU l).map rowIns ++ [rowIns ⟨0, 0, 0, 0, 0⟩])], .tup [.c (.slc 1 0 ((semaU l).length + 1) none false), okP], rfl, rfl, by decide, by decide, rfl, rfl, rfl, rfl, rfl, h⟩

end
end Go.Mac
