/- trade.Code: the program of a thread that trades. -/
import Derived.Test.YtlimhldkkbaohaaDoorGCutMade
import Derived.Test.YtlimhldkkbaohaaDoorGBase
open Go Go.Proofs Go.Mac
set_option maxRecDepth 100000
namespace Go.Mac

def tradeIns (id p : Int) (c : CallZ) : List InsZ :=
  [⟨1, 4, c.n + 1, 0, 0⟩, ⟨1, 5, (1 + id) + (c.n + 1) * 65536, 0, 0⟩, ⟨6, 1, 0, 0, 0⟩, ⟨11, 1, 0, p + 12, 0⟩, ⟨1, 2, 0, 0, 0⟩, ⟨9, 3, 0, 1, 2⟩, ⟨11, 3, 0, p + 2, 0⟩, ⟨5, 6, 1, 0, 16⟩, ⟨7, 0, 4, 6, 0⟩, ⟨15, 0, 1, 6, 0⟩, ⟨5, 2, 1, 16, 16⟩, ⟨10, p + 21, 0, 0, 0⟩,
   ⟨9, 3, 0, 1, 5⟩, ⟨11, 3, 0, p + 2, 0⟩, ⟨6, 2, 1 + id, 0, 0⟩, ⟨11, 2, 0, p + 17, 0⟩, ⟨10, p + 19, 0, 0, 0⟩, ⟨14, 1 + id, 2, 0, 0⟩, ⟨10, p + 14, 0, 0, 0⟩, ⟨1, 3, 0, 0, 0⟩, ⟨7, 1 + id, 3, -1, 0⟩, ⟨3, 2, 2, -1, 0⟩, ⟨16, 3, 2, 0, 0⟩]

def tradeU (id : Int) (l : List CallZ) : List InsZ := l.foldl (fun out c => out ++ tradeIns id out.length c) []
def tradeP (id : Int) (l : List CallZ) : List InsZ := tradeU id l ++ [⟨0, 0, 0, 0, 0⟩]
def tradeFit (c : CallZ) : Prop := c.w = 5 ∧ 0 ≤ c.n ∧ c.n ≤ 1000

theorem tradeU_take (id : Int) (l : List CallZ) (i : Nat) (c : CallZ) (h : l[i]? = some c) : tradeU id (l.take (i + 1)) = tradeU id (l.take i) ++ tradeIns id (tradeU id (l.take i)).length c := by
  rw [tradeU, List.take_add_one, h, List.foldl_append]
  rfl

theorem tradeU_len (id : Int) (l : List CallZ) : ∀ i, (tradeU id (l.take i)).length ≤ 23 * i
  | 0 => by simp [tradeU]
  | i + 1 => by
    have ih := tradeU_len id l i
    cases h : l[i]? with
    | none =>
      have : l.take (i + 1) = l.take i := by rw [List.take_add_one, h]; simp
      rw [this]; omega
    | some c =>
      rw [tradeU_take id l i c h, List.length_append]
      show _ + 23 ≤ _
      omega

section
variable {K : AV → List Nat → List PO → Prop}

theorem tradeOne (id p : Int) (hid : 0 ≤ id ∧ id < 16) (hp : 0 ≤ p ∧ p ≤ 1000000) (c : CallZ) (hc : tradeFit c) (h : K (cv (.slc 0 0 23 none true)) [] [.rows false 5 ((tradeIns id p c).map rowIns)]) : Does Tryd.prog 81 [i64 p, i64 id, i64 c.n] [] K := by
  obtain ⟨_, hn⟩ := hc
  refine does Tryd.func81 rfl (by decide) ?_
  rw [tradeIns, ← wrap_i64 (p + 12) (by omega) (by omega), ← wrap_i64 (p + 2) (by omega) (by omega), ← wrap_i64 (p + 21) (by omega) (by omega), ← wrap_i64 (p + 17) (by omega) (by omega), ← wrap_i64 (p + 19) (by omega) (by omega), ← wrap_i64 (p + 14) (by omega) (by omega),
    ← wrap_i64 ((1 + id) + (c.n + 1) * 65536) (by omega) (by omega), ← wrap_i64 ((c.n + 1) * 65536) (by omega) (by omega), ← wrap_i64 (1 + id) (by omega) (by omega), ← wrap_i64 (c.n + 1) (by omega) (by omega)] at h
  exact h

theorem tradeCode {id : Int} {l : List CallZ} (hid : 0 ≤ id ∧ id < 16) (hl : l.length ≤ 12) (hf : ∀ c ∈ l, tradeFit c) (h : K (.tup [.c (.slc 1 0 (tradeP id l).length none false), okP]) [] [.rows true 2 (l.map rowCallZ), .rows false 5 ((tradeP id l).map rowIns)]) :
    Does Tryd.prog 43 [i64 id, cv (.slc 0 0 l.length none false)] [.rows true 2 (l.map rowCallZ)] K := by
  refine Does.keep 1 rfl ?_
  refine does Tryd.func43 rfl (by decide) ?_
  refine brc_intro (fun h => ?_) (fun _ => ?_)
  · have : id < 0 := of_decide_eq_true h
    omega
  refine brc_intro (fun h => ?_) (fun _ => ?_)
  · have : id ≥ 16 := of_decide_eq_true h
    omega
  refine brc_intro (fun h => ?_) (fun _ => ?_)
  · have : (l.length : Int) > 12 := of_decide_eq_true h
    omega
  refine SS.nil 6 5 (by decide) rfl ?_
  refine SS.loop (fun i : Nat => i ≤ l.length) (fun i => [(0, i64 id), (6, cv (.slc 1 0 (tradeU id (l.take i)).length none false)), (20, cv (.slc 0 0 l.length none false)), (21, i64 l.length), (22, i64 i)]) (fun i => [.rows true 2 (l.map rowCallZ), .rows false 5 ((tradeU id (l.take i)).map rowIns)]) (fun i => l.length - i) [1]
    (At.mk' [0, 6, 20, 21, 22] 0 (by simp) ⟨rfl, rfl⟩ rfl rfl (by simp) (by simp) (by simp)) ?_
  intro i hi
  change i ≤ l.length at hi
  have hul := tradeU_len id l i
  refine S_r ?_
  refine brc_intro (fun hlt => ?_) (fun hlt => ?_)
  · have hlt : i < l.length := by
      have := of_decide_eq_true hlt
      have : (i : Int) < (l.length : Int) := this
      omega
    obtain ⟨c, hc⟩ : ∃ c, l[i]? = some c := ⟨_, List.getElem?_eq_getElem hlt⟩
    have hu := tradeU_take id l i c hc
    have hcf := hf c (List.mem_of_getElem? hc)
    refine SS.inlR ?_
    refine at2 (a := (0 : Int) ≤ (i : Int)) (b := (i : Int) < (l.length : Int)) (by omega) (by omega) (rdA (rowCallZ c) (show (l.map rowCallZ)[0 + Int.toNat (i : Int)]? = some (rowCallZ c) by simp [hc]) ?_)
    refine brc_intro (fun h => ?_) (fun _ => ?_)
    · have h : (c.w != 5) = true := h
      rw [hcf.1] at h
      cases h
    refine brc_intro (fun h => ?_) (fun _ => ?_)
    · have : c.n < 0 := of_decide_eq_true h
      have := hcf.2.1
      omega
    refine brc_intro (fun h => ?_) (fun _ => ?_)
    · have : c.n > 1000 := of_decide_eq_true h
      have := hcf.2.2
      omega
    change Does Tryd.prog 81 _ _ _
    refine Does.alone 3 (tradeOne id (tradeU id (l.take i)).length hid (by omega) c hcf ?_)
    have hol : (tradeIns id (tradeU id (l.take i)).length c).length = 23 := rfl
    generalize ho : tradeIns id (tradeU id (l.take i)).length c = o at *
    have e : List.take 23 (List.drop 0 (o.map rowIns)) = o.map rowIns := by rw [List.drop_zero, List.take_of_length_le (by simp [hol])]
    have e2 : (o.map rowIns).length = 23 := by simp [hol]
    refine And.intro (by simp [hol]) (Or.inl (And.intro rfl (And.intro (by simp) (And.intro ?_ (And.intro ?_ ?_)))))
    · rw [e, e2]
      show ((tradeU id (l.take i)).length + 23) * 40 ≤ _
      omega
    · rw [e, e2]
      omega
    · rw [e, e2]
      refine At.mk' [0, 6, 20, 21, 22] (i + 1) ⟨by show i + 1 ≤ l.length; omega, by omega⟩ ⟨?_, rfl⟩ ?_ rfl (by simp) (by simp) (by decide)
      · rw [wrap_i64 (i + 1) (by omega) (by omega), hu, List.length_append, hol]
        rfl
      · rw [hu, List.map_append]
        rfl
  · have hlt : ¬ (i : Int) < (l.length : Int) := of_decide_eq_false hlt
    obtain rfl : i = l.length := by omega
    rw [List.take_length] at hul ⊢
    refine And.intro (by decide) (Or.inl (And.intro rfl (And.intro (by simp) (And.intro ?_ (And.intro ?_ ?_)))))
    · show ((tradeU id l).length + 1) * 40 ≤ _
      omega
    · show (tradeU id l).length + 1 ≤ _
      omega
    · rw [tradeP, List.length_append, List.map_append] at h
      exact ⟨3, [0, 1], [.rows true 2 (l.map rowCallZ), .rows false 5 ((tradeU id l).map rowIns ++ [rowIns ⟨0, 0, 0, 0, 0⟩])], .tup [.c (.slc 1 0 ((tradeU id l).length + 1) none false), okP], rfl, rfl, by decide, by decide, rfl, rfl, rfl, rfl, rfl, h⟩

end
end Go.Mac
