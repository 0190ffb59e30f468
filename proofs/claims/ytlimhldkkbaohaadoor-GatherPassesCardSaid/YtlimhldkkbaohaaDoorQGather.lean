/- gather.Code: the program of a thread that asks a phaser. -/
import Derived.Test.YtlimhldkkbaohaaDoorGCutMade
import Derived.Test.YtlimhldkkbaohaaDoorGBase
import Derived.Test.YtlimhldkkbaohaaDoorQPackG
open Go Go.Proofs Go.Mac
set_option maxRecDepth 100000
namespace Go.Mac

def gFitB (w n : Int) : Bool :=
  if w = 6 then decide (1 ≤ n ∧ n ≤ 65535) else if w = 10 then decide (0 ≤ n ∧ n < 2147483648) else if w = 7 ∨ w = 8 ∨ w = 9 ∨ w = 11 then decide (n = 0) else false

abbrev callG (w n : Int) : PV := .agg [.f (.int .i64 w), .f (.int .i64 n)]

def overI (to : Int) : List InsZ := [⟨6, 1, 0, 0, 0⟩, ⟨5, 2, 1, 63, 1⟩, ⟨11, 2, 1, to, 0⟩]
def awaitT (p : Int) : List InsZ := [⟨5, 2, 1, 32, 31⟩, ⟨13, 2, 5, p + 6, 0⟩, ⟨10, p + 9, 0, 0, 0⟩, ⟨14, 0, 1, 0, 0⟩, ⟨10, p, 0, 0, 0⟩, ⟨1, 2, -1, 0, 0⟩, ⟨16, 3, 2, 0, 0⟩]
def awaitI (p : Int) : List InsZ := overI (p + 8) ++ awaitT p
def closesT (p : Int) : List InsZ := [⟨3, 4, 1, -9223372036854775808, 0⟩, ⟨9, 3, 0, 1, 4⟩, ⟨11, 3, 0, p, 0⟩, ⟨15, 0, 16, -1, 0⟩, ⟨1, 2, 0, 0, 0⟩, ⟨10, p + 10, 0, 0, 0⟩, ⟨1, 2, -1, 0, 0⟩, ⟨16, 3, 2, 0, 0⟩]
def closesI (p : Int) : List InsZ := overI (p + 9) ++ closesT p
def registerT (p n : Int) : List InsZ := [⟨5, 2, 1, 16, 16⟩, ⟨1, 3, 65535 - n, 0, 0⟩, ⟨12, 3, 2, p + 13, 0⟩, ⟨3, 4, 1, 65537 * n, 0⟩, ⟨9, 3, 0, 1, 4⟩, ⟨11, 3, 0, p, 0⟩, ⟨5, 2, 1, 32, 31⟩, ⟨10, p + 14, 0, 0, 0⟩, ⟨1, 2, -1, 0, 0⟩, ⟨10, p + 14, 0, 0, 0⟩, ⟨1, 2, -3, 0, 0⟩, ⟨16, 3, 2, 0, 0⟩]
def registerI (p n : Int) : List InsZ := overI (p + 11) ++ registerT p n
def arriveT (p more fail : Int) : List InsZ := [⟨5, 2, 1, 0, 16⟩, ⟨11, 2, 0, p + 27, 0⟩, ⟨3, 4, 1, more, 0⟩, ⟨11, 2, 1, p + 8, 0⟩, ⟨10, p + 18, 0, 0, 0⟩, ⟨5, 3, 4, 16, 16⟩, ⟨11, 3, 0, p + 17, 0⟩, ⟨4, 4, 4, 3, 0⟩, ⟨5, 3, 1, 32, 31⟩, ⟨11, 3, 2147483647, p + 15, 0⟩, ⟨3, 4, 4, 4294967296, 0⟩, ⟨10, p + 18, 0, 0, 0⟩,
  ⟨3, 4, 4, -9223372032559808512, 0⟩, ⟨10, p + 18, 0, 0, 0⟩, ⟨3, 4, 4, -9223372036854775808, 0⟩, ⟨9, 3, 0, 1, 4⟩, ⟨11, 3, 0, p, 0⟩, ⟨5, 5, 1, 32, 31⟩, ⟨11, 2, 1, p + 23, 0⟩, ⟨10, p + 29, 0, 0, 0⟩, ⟨15, 0, 16, -1, 0⟩, ⟨10, p + 29, 0, 0, 0⟩, ⟨1, 2, -1, 0, 0⟩, ⟨10, fail, 0, 0, 0⟩, ⟨1, 2, -2, 0, 0⟩, ⟨10, fail, 0, 0, 0⟩]
def arriveI (p more fail : Int) : List InsZ := overI (p + 25) ++ arriveT p more fail
def tellsI : List InsZ := [⟨2, 2, 5, 0, 0⟩, ⟨16, 3, 2, 0, 0⟩]

section
variable {K : AV → List Nat → List PO → Prop}

theorem gFits (w n : Int) (hK : K (bl (gFitB w n)) [] []) : Does Tryd.prog 60 [.p (callG w n)] [] K := by
  refine does Tryd.func60 rfl (by decide) ?_
  refine brc_intro (fun h => ?_) (fun h6 => ?_)
  · have h : w = 6 := by simpa using h
    refine brc_intro (fun h1 => ?_) (fun h1 => ?_)
    · exact eqb (K := fun b => K (bl b) [] []) hK (by have h1 := of_decide_eq_true h1; simp [gFitB, h, h1])
    · exact eqb (K := fun b => K (bl b) [] []) hK (by have h1 := of_decide_eq_false h1; simp [gFitB, h]; omega)
  have h6 : ¬ w = 6 := by simpa using h6
  refine brc_intro (fun h => ?_) (fun h10 => ?_)
  · have h : w = 10 := by simpa using h
    refine brc_intro (fun h1 => ?_) (fun h1 => ?_)
    · exact eqb (K := fun b => K (bl b) [] []) hK (by have h1 := of_decide_eq_true h1; simp [gFitB, h, h1])
    · exact eqb (K := fun b => K (bl b) [] []) hK (by have h1 := of_decide_eq_false h1; simp [gFitB, h]; omega)
  have h10 : ¬ w = 10 := by simpa using h10
  have z : (w = 7 ∨ w = 8 ∨ w = 9 ∨ w = 11) → K (bl (n == 0)) [] [] := fun h => eqb (K := fun b => K (bl b) [] []) hK (by simp [gFitB, h6, h10, h, Bool.beq_eq_decide_eq])
  refine brc_intro (fun h => z (.inl (by simpa using h))) (fun h7 => ?_)
  refine brc_intro (fun h => z (.inr (.inl (by simpa using h)))) (fun h8 => ?_)
  refine brc_intro (fun h => z (.inr (.inr (.inl (by simpa using h))))) (fun h9 => ?_)
  refine brc_intro (fun h => z (.inr (.inr (.inr (by simpa using h))))) (fun h11 => ?_)
  exact eqb (K := fun b => K (bl b) [] []) hK (by simp at h7 h8 h9 h11; simp [gFitB, h6, h10, h7, h8, h9, h11])

theorem gOver (to : Int) (h : K (cv (.slc 0 0 3 none true)) [] [.rows false 5 ((overI to).map rowIns)]) : Does Tryd.prog 123 [i64 to] [] K := by
  refine does Tryd.func123 rfl (by decide) ?_
  exact h

theorem gAwait (p : Int) (hp : 0 ≤ p ∧ p ≤ 1000000) (h : K (cv (.slc 0 0 10 none true)) [] [.rows false 5 ((awaitI p).map rowIns)]) : Does Tryd.prog 96 [i64 p] [] K := by
  refine Does.keep 0 rfl ?_
  refine does Tryd.func96 rfl (by decide) ?_
  change Does Tryd.prog 123 _ _ _
  refine Does.alone 0 (gOver _ ?_)
  rw [awaitI, awaitT, ← wrap_i64 (p + 8) (by omega) (by omega), ← wrap_i64 (p + 6) (by omega) (by omega), ← wrap_i64 (p + 9) (by omega) (by omega), List.map_append] at h
  refine And.intro (Nat.le_of_ble_eq_true rfl) (Or.inl (And.intro rfl (And.intro rfl (And.intro (Nat.le_of_ble_eq_true rfl) (And.intro (Nat.le_of_ble_eq_true rfl) ?_)))))
  exact ⟨2, [0], _, cv (.slc 0 0 10 none true), rfl, rfl, by decide, by decide, rfl, rfl, rfl, rfl, rfl, h⟩

theorem gCloses (p : Int) (hp : 0 ≤ p ∧ p ≤ 1000000) (h : K (cv (.slc 0 0 11 none true)) [] [.rows false 5 ((closesI p).map rowIns)]) : Does Tryd.prog 97 [i64 p] [] K := by
  refine Does.keep 0 rfl ?_
  refine does Tryd.func97 rfl (by decide) ?_
  change Does Tryd.prog 123 _ _ _
  refine Does.alone 0 (gOver _ ?_)
  rw [closesI, closesT, ← wrap_i64 (p + 9) (by omega) (by omega), ← wrap_i64 (p + 10) (by omega) (by omega), List.map_append] at h
  refine And.intro (Nat.le_of_ble_eq_true rfl) (Or.inl (And.intro rfl (And.intro rfl (And.intro (Nat.le_of_ble_eq_true rfl) (And.intro (Nat.le_of_ble_eq_true rfl) ?_)))))
  exact ⟨2, [0], _, cv (.slc 0 0 11 none true), rfl, rfl, by decide, by decide, rfl, rfl, rfl, rfl, rfl, h⟩

theorem gRegister (p n : Int) (hp : 0 ≤ p ∧ p ≤ 1000000) (hn : 0 ≤ n ∧ n ≤ 65535) (h : K (cv (.slc 0 0 15 none true)) [] [.rows false 5 ((registerI p n).map rowIns)]) : Does Tryd.prog 95 [i64 p, i64 n] [] K := by
  refine Does.keep 0 rfl ?_
  refine does Tryd.func95 rfl (by decide) ?_
  change Does Tryd.prog 123 _ _ _
  refine Does.alone 0 (gOver _ ?_)
  rw [registerI, registerT, ← wrap_i64 (p + 11) (by omega) (by omega), ← wrap_i64 (p + 13) (by omega) (by omega), ← wrap_i64 (p + 14) (by omega) (by omega), ← wrap_i64 (65535 - n) (by omega) (by omega), ← wrap_i64 (65537 * n) (by omega) (by omega), List.map_append] at h
  refine And.intro (Nat.le_of_ble_eq_true rfl) (Or.inl (And.intro rfl (And.intro rfl (And.intro (Nat.le_of_ble_eq_true rfl) (And.intro (Nat.le_of_ble_eq_true rfl) ?_)))))
  exact ⟨2, [0], _, cv (.slc 0 0 15 none true), rfl, rfl, by decide, by decide, rfl, rfl, rfl, rfl, rfl, h⟩

theorem gArrive (p more fail : Int) (hp : 0 ≤ p ∧ p ≤ 1000000) (h : K (cv (.slc 0 0 29 none true)) [] [.rows false 5 ((arriveI p more fail).map rowIns)]) : Does Tryd.prog 98 [i64 p, i64 more, i64 fail] [] K := by
  refine Does.keep 0 rfl ?_
  refine does Tryd.func98 rfl (by decide) ?_
  change Does Tryd.prog 123 _ _ _
  refine Does.alone 0 (gOver _ ?_)
  rw [arriveI, arriveT, ← wrap_i64 (p + 25) (by omega) (by omega), ← wrap_i64 (p + 27) (by omega) (by omega), ← wrap_i64 (p + 8) (by omega) (by omega), ← wrap_i64 (p + 18) (by omega) (by omega), ← wrap_i64 (p + 17) (by omega) (by omega), ← wrap_i64 (p + 15) (by omega) (by omega), ← wrap_i64 (p + 23) (by omega) (by omega), ← wrap_i64 (p + 29) (by omega) (by omega), List.map_append] at h
  refine And.intro (Nat.le_of_ble_eq_true rfl) (Or.inl (And.intro rfl (And.intro rfl (And.intro (Nat.le_of_ble_eq_true rfl) (And.intro (Nat.le_of_ble_eq_true rfl) ?_)))))
  exact ⟨2, [0], _, cv (.slc 0 0 29 none true), rfl, rfl, by decide, by decide, rfl, rfl, rfl, rfl, rfl, h⟩

theorem gTells (h : K (cv (.slc 0 0 2 none true)) [] [.rows false 5 (tellsI.map rowIns)]) : Does Tryd.prog 99 [] [] K := by
  refine does Tryd.func99 rfl (by decide) ?_
  exact h

def gathI (p : Int) (c : CallZ) : List InsZ :=
  if c.w = 6 then registerI p c.n
  else if c.w = 10 then ⟨1, 5, c.n, 0, 0⟩ :: awaitI (p + 1)
  else if c.w = 11 then closesI p
  else if c.w = 9 then arriveI p (-1) (p + 38) ++ awaitI (p + 29)
  else if c.w = 8 then arriveI p (-65537) (p + 30) ++ tellsI
  else arriveI p (-1) (p + 30) ++ tellsI

theorem gathI_len (p : Int) (c : CallZ) : (gathI p c).length ≤ 39 ∧ 1 ≤ (gathI p c).length := by
  rw [gathI]
  repeat' split
  all_goals exact ⟨Nat.le_of_ble_eq_true rfl, Nat.le_of_ble_eq_true rfl⟩

theorem gOne (p : Int) (hp : 0 ≤ p ∧ p ≤ 900000) (c : CallZ) (hc : gFitB c.w c.n = true) (h : K (cv (.slc 0 0 (gathI p c).length none true)) [] [.rows false 5 ((gathI p c).map rowIns)]) : Does Tryd.prog 61 [i64 p, .p (callG c.w c.n)] [] K := by
  refine Does.keep 0 rfl ?_
  refine does Tryd.func61 rfl (by decide) ?_
  have e1 : IntKind.i64.wrap (p + 1) = p + 1 := wrap_i64 _ (by omega) (by omega)
  have e29 : IntKind.i64.wrap (p + 29) = p + 29 := wrap_i64 _ (by omega) (by omega)
  have e30 : IntKind.i64.wrap (p + 30) = p + 30 := wrap_i64 _ (by omega) (by omega)
  have e38 : IntKind.i64.wrap (p + 38) = p + 38 := wrap_i64 _ (by omega) (by omega)
  refine brc_intro (fun hw => ?_) (fun hw => ?_)
  · have hw : c.w = 6 := beq_iff_eq.1 hw
    rw [gFitB, if_pos hw] at hc
    have hn := of_decide_eq_true hc
    rw [gathI, if_pos hw] at h
    change Does Tryd.prog 95 _ _ _
    refine Does.alone 1 (gRegister p c.n (by omega) (by omega) ?_)
    exact ⟨2, [1], _, cv (.slc 0 0 15 none true), rfl, rfl, by decide, by decide, rfl, rfl, rfl, rfl, rfl, h⟩
  have hw6 : ¬ c.w = 6 := beq_eq_false_iff_ne.1 hw
  rw [gathI, if_neg hw6] at h
  refine brc_intro (fun hw => ?_) (fun hw => ?_)
  · have hw : c.w = 10 := beq_iff_eq.1 hw
    rw [if_pos hw] at h
    have h : K (cv (.slc 0 0 11 none true)) [] [.rows false 5 ([rowIns ⟨1, 5, c.n, 0, 0⟩] ++ (awaitI (p + 1)).map rowIns)] := h
    refine SS.drawR follows (by decide) ?_
    refine And.intro ?_ ?_
    · refine And.intro rfl (And.intro rfl ?_)
      change Does Tryd.prog 96 _ _ _
      rw [e1]
      refine Does.alone 2 (gAwait (p + 1) (by omega) ?_)
      refine And.intro (Nat.le_of_ble_eq_true rfl) (Or.inl (And.intro rfl (And.intro rfl (And.intro (Nat.le_of_ble_eq_true rfl) (And.intro (Nat.le_of_ble_eq_true rfl) ?_)))))
      exact ⟨3, [1], _, cv (.slc 0 0 11 none true), rfl, rfl, by decide, by decide, rfl, rfl, rfl, rfl, rfl, h⟩
    · change Does Tryd.prog 96 _ _ _
      rw [e1]
      refine Does.alone 1 (gAwait (p + 1) (by omega) ?_)
      refine And.intro rfl (And.intro rfl (And.intro rfl ?_))
      refine And.intro (Nat.le_of_ble_eq_true rfl) (Or.inl (And.intro rfl (And.intro rfl (And.intro (Nat.le_of_ble_eq_true rfl) (And.intro (Nat.le_of_ble_eq_true rfl) ?_)))))
      exact ⟨3, [2], _, cv (.slc 0 0 11 none true), rfl, rfl, by decide, by decide, rfl, rfl, rfl, rfl, rfl, h⟩
  have hw10 : ¬ c.w = 10 := beq_eq_false_iff_ne.1 hw
  rw [if_neg hw10] at h
  refine brc_intro (fun hw => ?_) (fun hw => ?_)
  · have hw : c.w = 11 := beq_iff_eq.1 hw
    rw [if_pos hw] at h
    change Does Tryd.prog 97 _ _ _
    refine Does.alone 1 (gCloses p (by omega) ?_)
    exact ⟨2, [1], _, cv (.slc 0 0 11 none true), rfl, rfl, by decide, by decide, rfl, rfl, rfl, rfl, rfl, h⟩
  have hw11 : ¬ c.w = 11 := beq_eq_false_iff_ne.1 hw
  rw [if_neg hw11] at h
  refine brc_intro (fun hw => ?_) (fun hw => ?_)
  · have hw : c.w = 9 := beq_iff_eq.1 hw
    rw [if_pos hw, List.map_append] at h
    change Does Tryd.prog 98 _ _ _
    rw [e38]
    refine Does.alone 1 (gArrive p _ _ (by omega) ?_)
    change Does Tryd.prog 96 _ _ _
    rw [e29]
    refine Does.alone 2 (gAwait (p + 29) (by omega) ?_)
    refine And.intro (Nat.le_of_ble_eq_true rfl) (Or.inl (And.intro rfl (And.intro rfl (And.intro (Nat.le_of_ble_eq_true rfl) (And.intro (Nat.le_of_ble_eq_true rfl) ?_)))))
    exact ⟨3, [1], _, cv (.slc 0 0 39 none true), rfl, rfl, by decide, by decide, rfl, rfl, rfl, rfl, rfl, h⟩
  have hw9 : ¬ c.w = 9 := beq_eq_false_iff_ne.1 hw
  rw [if_neg hw9] at h
  refine brc_intro (fun hw => ?_) (fun hw => ?_)
  · have hw : c.w = 8 := beq_iff_eq.1 hw
    rw [if_pos hw, List.map_append] at h
    change Does Tryd.prog 98 _ _ _
    rw [e30]
    refine Does.alone 1 (gArrive p _ _ (by omega) ?_)
    change Does Tryd.prog 99 _ _ _
    refine Does.alone 2 (gTells ?_)
    refine And.intro (Nat.le_of_ble_eq_true rfl) (Or.inl (And.intro rfl (And.intro rfl (And.intro (Nat.le_of_ble_eq_true rfl) (And.intro (Nat.le_of_ble_eq_true rfl) ?_)))))
    exact ⟨3, [1], _, cv (.slc 0 0 31 none true), rfl, rfl, by decide, by decide, rfl, rfl, rfl, rfl, rfl, h⟩
  have hw8 : ¬ c.w = 8 := beq_eq_false_iff_ne.1 hw
  rw [if_neg hw8, List.map_append] at h
  change Does Tryd.prog 98 _ _ _
  rw [e30]
  refine Does.alone 1 (gArrive p _ _ (by omega) ?_)
  change Does Tryd.prog 99 _ _ _
  refine Does.alone 2 (gTells ?_)
  refine And.intro (Nat.le_of_ble_eq_true rfl) (Or.inl (And.intro rfl (And.intro rfl (And.intro (Nat.le_of_ble_eq_true rfl) (And.intro (Nat.le_of_ble_eq_true rfl) ?_)))))
  exact ⟨3, [1], _, cv (.slc 0 0 31 none true), rfl, rfl, by decide, by decide, rfl, rfl, rfl, rfl, rfl, h⟩

/-- The instructions of some calls. -/
def gathU (l : List CallZ) : List InsZ := l.foldl (fun out c => out ++ gathI out.length c) []
def gathP (l : List CallZ) : List InsZ := gathU l ++ [⟨0, 0, 0, 0, 0⟩]
def gFit (c : CallZ) : Prop := gFitB c.w c.n = true

theorem gathU_snoc (l : List CallZ) (c : CallZ) : gathU (l ++ [c]) = gathU l ++ gathI (gathU l).length c := by
  rw [gathU, List.foldl_append]
  rfl

theorem gathU_take (l : List CallZ) (i : Nat) (c : CallZ) (h : l[i]? = some c) : gathU (l.take (i + 1)) = gathU (l.take i) ++ gathI (gathU (l.take i)).length c := by
  rw [List.take_add_one, h]
  exact gathU_snoc _ _

theorem gathU_len (l : List CallZ) : ∀ i, (gathU (l.take i)).length ≤ 39 * i
  | 0 => by simp [gathU]
  | i + 1 => by
    have ih := gathU_len l i
    cases h : l[i]? with
    | none =>
      have : l.take (i + 1) = l.take i := by rw [List.take_add_one, h]; simp
      rw [this]; omega
    | some c =>
      rw [gathU_take l i c h, List.length_append]
      have := gathI_len (gathU (l.take i)).length c
      omega

theorem gCode {ro : Bool} {l : List CallZ} (hl : l.length ≤ 12) (hf : ∀ c ∈ l, gFit c) (h : K (.tup [.c (.slc 1 0 (gathP l).length none false), okP]) [] [.rows ro 2 (l.map rowCallZ), .rows false 5 ((gathP l).map rowIns)]) :
    Does Tryd.prog 19 [cv (.slc 0 0 l.length none false)] [.rows ro 2 (l.map rowCallZ)] K := by
  refine Does.keep 1 rfl ?_
  refine does Tryd.func19 rfl (by decide) ?_
  refine brc_intro (fun h => ?_) (fun _ => ?_)
  · have : (l.length : Int) > 12 := of_decide_eq_true h
    omega
  refine SS.nil 4 5 (by decide) rfl ?_
  refine SS.loop (fun i : Nat => i ≤ l.length) (fun i => [(4, cv (.slc 1 0 (gathU (l.take i)).length none false)), (11, cv (.slc 0 0 l.length none false)), (12, i64 l.length), (13, i64 i)]) (fun i => [.rows ro 2 (l.map rowCallZ), .rows false 5 ((gathU (l.take i)).map rowIns)]) (fun i => l.length - i) [1]
    (At.mk' [4, 11, 12, 13] 0 (by simp) ⟨rfl, rfl⟩ rfl rfl (by simp) (by simp) (by simp)) ?_
  intro i hi
  change i ≤ l.length at hi
  have hul := gathU_len l i
  refine S_r ?_
  refine brc_intro (fun hlt => ?_) (fun hlt => ?_)
  · have hlt : i < l.length := by
      have := of_decide_eq_true hlt
      have : (i : Int) < (l.length : Int) := this
      omega
    obtain ⟨c, hc⟩ : ∃ c, l[i]? = some c := ⟨_, List.getElem?_eq_getElem hlt⟩
    have hu := gathU_take l i c hc
    have hfc : gFitB c.w c.n = true := hf c (List.mem_of_getElem? hc)
    refine SS.inlR ?_
    refine at2 (a := (0 : Int) ≤ (i : Int)) (b := (i : Int) < (l.length : Int)) (by omega) (by omega) (rdA (rowCallZ c) (show (l.map rowCallZ)[0 + Int.toNat (i : Int)]? = some (rowCallZ c) by simp [hc]) ?_)
    change Does Tryd.prog 60 _ _ _
    refine Does.alone 3 (gFits c.w c.n ?_)
    rw [hfc]
    change Does Tryd.prog 61 _ _ _
    refine Does.alone 3 (gOne (gathU (l.take i)).length (by omega) c hfc ?_)
    have hol := gathI_len (gathU (l.take i)).length c
    generalize ho : gathI (gathU (l.take i)).length c = o at *
    have e : List.take o.length (List.drop 0 (o.map rowIns)) = o.map rowIns := by rw [List.drop_zero, List.take_of_length_le (by simp)]
    have e2 : (o.map rowIns).length = o.length := by simp
    refine And.intro (by simp) (Or.inl (And.intro rfl (And.intro (by simp) (And.intro ?_ (And.intro ?_ ?_)))))
    · rw [e, e2]
      show ((gathU (l.take i)).length + o.length) * 40 ≤ _
      omega
    · rw [e, e2]
      omega
    · rw [e, e2]
      refine At.mk' [4, 11, 12, 13] (i + 1) ⟨by show i + 1 ≤ l.length; omega, by omega⟩ ⟨?_, rfl⟩ ?_ rfl (by simp) (by simp) (by decide)
      · rw [wrap_i64 (i + 1) (by omega) (by omega), hu, List.length_append]
        rfl
      · rw [hu, List.map_append]
        rfl
  · have hlt : ¬ (i : Int) < (l.length : Int) := of_decide_eq_false hlt
    obtain rfl : i = l.length := by omega
    rw [List.take_length] at hul ⊢
    refine And.intro (by decide) (Or.inl (And.intro rfl (And.intro (by simp) (And.intro ?_ (And.intro ?_ ?_)))))
    · show ((gathU l).length + 1) * 40 ≤ _
      omega
    · show (gathU l).length + 1 ≤ _
      omega
    · rw [gathP, List.length_append, List.map_append] at h
      exact ⟨3, [0, 1], [.rows ro 2 (l.map rowCallZ), .rows false 5 ((gathU l).map rowIns ++ [rowIns ⟨0, 0, 0, 0, 0⟩])], .tup [.c (.slc 1 0 ((gathU l).length + 1) none false), okP], rfl, rfl, by decide, by decide, rfl, rfl, rfl, rfl, rfl, h⟩

theorem gatherCode (i : Int) {ro : Bool} {l : List CallZ} (hl : l.length ≤ 12) (hf : ∀ c ∈ l, gFit c) (h : K (.tup [.c (.slc 1 0 (gathP l).length none false), okP]) [] [.rows ro 2 (l.map rowCallZ), .rows false 5 ((gathP l).map rowIns)]) :
    Does Tryd.prog 36 [i64 i, cv (.slc 0 0 l.length none false)] [.rows ro 2 (l.map rowCallZ)] K := by
  refine does Tryd.func36 rfl (by decide) ?_
  change Does Tryd.prog 19 _ _ _
  refine gCode hl hf ?_
  exact h

end
end Go.Mac
