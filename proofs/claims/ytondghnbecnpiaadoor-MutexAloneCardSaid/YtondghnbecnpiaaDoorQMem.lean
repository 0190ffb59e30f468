/- Memories. -/
import Derived.Test.YtondghnbecnpiaaDoorQEqU
import Derived.Test.YtondghnbecnpiaaDoorQPick
open Go Go.Proofs Go.Mac
set_option maxRecDepth 100000
namespace Go.Mac

abbrev okC' : PV := .c .niliface
abbrev errC' (n : Int) : PV := .c (.iface 84 (.f (.int .i64 n)))
abbrev wordC (n : Int) : PV := .c (.f (.int .u64 n))

/-- A memory of n cells. -/
abbrev memH (nn : Bool) (n : Nat) (ws : List Int) : List PO := [.one [.slc 1 0 n none nn], .rows false 1 (ws.map rowU)]

section
variable {K : AV → List Nat → List PO → Prop} {nn : Bool} {n : Nat} {ws : List Int}

theorem memIn (at' : Int) (h : K (bl (decide (0 ≤ at' ∧ at' < n))) [] (memH nn n ws)) : Does Tryd.prog 95 [cv (.ptr 0 0), i64 at'] (memH nn n ws) K := by
  refine does Tryd.func95 rfl (by decide) ?_
  refine brc_intro (fun h1 => ?_) (fun h1 => ?_)
  · refine eqb (K := fun b => K (bl b) [] (memH nn n ws)) h ?_
    have h1 := of_decide_eq_true h1
    simp [h1]
  · refine eqb (K := fun b => K (bl b) [] (memH nn n ws)) h ?_
    have h1 := of_decide_eq_false h1
    simp
    omega

theorem memLoad (hn : ws.length = n) (at' : Int) (h1 : ∀ (k : Nat) (x : Int), at' = k → ws[k]? = some x → K (.tup [wordC x, okC']) [] (memH nn n ws)) (h0 : ¬ (0 ≤ at' ∧ at' < n) → K (.tup [wordC 0, errC' 2]) [] (memH nn n ws)) :
    Does Tryd.prog 72 [cv (.ptr 0 0), i64 at'] (memH nn n ws) K := by
  refine does Tryd.func72 rfl (by decide) ?_
  change Does Tryd.prog 95 _ _ _
  refine memIn at' ?_
  refine brc_intro (fun h => ?_) (fun h => ?_)
  · exact h0 (by simp at h; omega)
  · have h : 0 ≤ at' ∧ at' < n := by simpa using h
    obtain ⟨k, rfl⟩ := Int.eq_ofNat_of_zero_le h.1
    obtain ⟨x, hx⟩ : ∃ x, ws[k]? = some x := ⟨_, List.getElem?_eq_getElem (by omega)⟩
    refine at2 (by omega) (by omega) (rd1 (rowU x) (.int .u64 x) (by simp [hx]) rfl ?_)
    exact h1 k x rfl hx

theorem memStore (hn : ws.length = n) (at' x : Int) (h1 : ∀ k : Nat, at' = k → k < n → K (cv .niliface) [] (memH nn n (ws.set k x))) (h0 : ¬ (0 ≤ at' ∧ at' < n) → K (.p (errC' 2)) [] (memH nn n ws)) :
    Does Tryd.prog 97 [cv (.ptr 0 0), i64 at', u64 x] (memH nn n ws) K := by
  refine does Tryd.func97 rfl (by decide) ?_
  change Does Tryd.prog 95 _ _ _
  refine memIn at' ?_
  refine brc_intro (fun h => ?_) (fun h => ?_)
  · exact h0 (by simp at h; omega)
  · have h : 0 ≤ at' ∧ at' < n := by simpa using h
    obtain ⟨k, rfl⟩ := Int.eq_ofNat_of_zero_le h.1
    obtain ⟨y, hy⟩ : ∃ x, ws[k]? = some x := ⟨_, List.getElem?_eq_getElem (by omega)⟩
    refine at2 (by omega) (by omega) (wr1 (rowU y) (by simp [hy]) ?_)
    refine eqx (K := fun r => K (cv .niliface) [] [.one [.slc 1 0 n none nn], .rows false 1 r]) (h1 k rfl (by omega)) ?_
    simp

theorem memFetch (hn : ws.length = n) (at' m : Int) (h1 : ∀ (k : Nat) (x : Int), at' = k → ws[k]? = some x → K (.tup [wordC x, okC']) [] (memH nn n (ws.set k (IntKind.u64.wrap (x + m))))) (h0 : ¬ (0 ≤ at' ∧ at' < n) → K (.tup [wordC 0, errC' 2]) [] (memH nn n ws)) :
    Does Tryd.prog 74 [cv (.ptr 0 0), i64 at', u64 m] (memH nn n ws) K := by
  refine does Tryd.func74 rfl (by decide) ?_
  change Does Tryd.prog 72 _ _ _
  refine memLoad hn at' (fun k x hk hx => ?_) fun h => ?_
  · subst hk
    have hlt := (List.getElem?_eq_some_iff.1 hx).1
    refine at2 (by omega) (by omega) (wr1 (rowU x) (by simp [hx]) ?_)
    refine eqx (K := fun r => K (.tup [wordC x, okC']) [] [.one [.slc 1 0 n none nn], .rows false 1 r]) (h1 k x rfl hx) ?_
    simp
  · exact h0 h

theorem memSwap (hn : ws.length = n) (at' was is : Int) (h1 : ∀ (k : Nat) (x : Int), at' = k → ws[k]? = some x → x = was → K (.tup [.c (.f (.bool true)), okC']) [] (memH nn n (ws.set k is)))
    (h2 : ∀ (k : Nat) (x : Int), at' = k → ws[k]? = some x → x ≠ was → K (.tup [.c (.f (.bool false)), okC']) [] (memH nn n ws)) (h0 : ¬ (0 ≤ at' ∧ at' < n) → K (.tup [.c (.f (.bool false)), errC' 2]) [] (memH nn n ws)) :
    Does Tryd.prog 75 [cv (.ptr 0 0), i64 at', u64 was, u64 is] (memH nn n ws) K := by
  refine does Tryd.func75 rfl (by decide) ?_
  change Does Tryd.prog 72 _ _ _
  refine memLoad hn at' (fun k x hk hx => ?_) fun h => ?_
  · subst hk
    have hlt := (List.getElem?_eq_some_iff.1 hx).1
    refine brc_intro (fun h => ?_) (fun h => ?_)
    · exact h2 k x rfl hx (by simpa using h)
    · have hxw : x = was := by simpa using h
      refine at2 (by omega) (by omega) (wr1 (rowU x) (by simp [hx]) ?_)
      refine eqx (K := fun r => K (.tup [.c (.f (.bool true)), okC']) [] [.one [.slc 1 0 n none nn], .rows false 1 r]) (h1 k x rfl hx hxw) ?_
      simp
  · exact h0 h

theorem memOf {ro : Bool} {nn : Bool} {l : List Int} {c : Option Nat} (n : Nat) (hl : l.length = n) (hn : n ≤ 300) (h : K (.tup [.c (.ptr 2 0), okC']) [] [.rows ro 1 (l.map rowU), .rows false 1 (l.map rowU), .one [.slc 1 0 n none false]]) :
    Does Tryd.prog 52 [cv (.slc 0 0 n c nn)] [.rows ro 1 (l.map rowU)] K := by
  refine does Tryd.func52 rfl (by decide) ?_
  refine brc_intro (fun h => ?_) (fun _ => ?_)
  · have := of_decide_eq_true h; omega
  have e : (List.take n (List.drop 0 (l.map rowU))) = l.map rowU := by rw [List.drop_zero, List.take_of_length_le]; simp; omega
  refine And.intro (by simp; omega) (And.intro ?_ (And.intro ?_ ?_))
  · rw [e]
    show (l.map rowU).length * 8 ≤ _
    simp; omega
  · rw [e]; simp; omega
  · rw [e]
    have e2 : (l.map rowU).length = n := by simp; exact hl
    rw [e2]
    exact h

theorem memWords (hn : ws.length = n) (hm : n ≤ 300) (h : K (cv (.slc 2 0 n none false)) [] (memH nn n ws ++ [.rows false 1 (ws.map rowU)])) : Does Tryd.prog 62 [cv (.ptr 0 0)] (memH nn n ws) K := by
  refine does Tryd.func62 rfl (by decide) ?_
  have e : (List.take n (List.drop 0 (ws.map rowU))) = ws.map rowU := by rw [List.drop_zero, List.take_of_length_le]; simp; omega
  refine And.intro (by simp; omega) (And.intro ?_ (And.intro ?_ ?_))
  · rw [e]
    show (ws.map rowU).length * 8 ≤ _
    simp; omega
  · rw [e]; simp; omega
  · rw [e]
    have e2 : (ws.map rowU).length = n := by simp; exact hn
    rw [e2]
    exact h

end
end Go.Mac
