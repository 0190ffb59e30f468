/- What each thread was told, in order. -/
import Derived.Test.YtlimhldkkbaohaaDoorGMachB
import Derived.Test.YtlimhldkkbaohaaDoorQTell
open Go Go.Proofs Go.Mac
set_option maxRecDepth 100000
namespace Go.Mac

/-- What a thread was told. -/
def ansT (t : Nat) (el : List EvZ) : List Int := (el.filter fun e => e.a == 3 && e.t == (t : Int)).map (·.v)

/-- What each of so many threads was told. -/
def ansL (n : Nat) (el : List EvZ) : List (List Int) := (List.range n).map fun t => ansT t el

/-- The slices while they are made: where each lies. -/
def ansE (n : Nat) (lc : Nat → ILoc) (el : List EvZ) : List (Option (ILoc × List (List FC))) := (List.range n).map fun t => some (lc t, (ansT t el).map rowZ)

theorem ansT_snoc (t : Nat) (el : List EvZ) (e : EvZ) : ansT t (el ++ [e]) = if e.a = 3 ∧ e.t = (t : Int) then ansT t el ++ [e.v] else ansT t el := by
  rw [ansT, List.filter_append, List.map_append]
  by_cases h : e.a = 3 ∧ e.t = (t : Int)
  · rw [if_pos h]
    simp [ansT, h.1, h.2]
  · rw [if_neg h]
    have : (e.a == 3 && e.t == (t : Int)) = false := by
      rw [Bool.and_eq_false_iff]
      by_cases h1 : e.a = 3
      · exact .inr (by simpa using fun h2 => h ⟨h1, h2⟩)
      · exact .inl (by simpa using h1)
    simp [ansT, this]

theorem ansE_get {n t : Nat} (lc : Nat → ILoc) (el : List EvZ) (h : t < n) : (ansE n lc el)[t]? = some (some (lc t, (ansT t el).map rowZ)) := by
  rw [ansE, List.getElem?_map, List.getElem?_range h]
  rfl

theorem ansE_len (n : Nat) (lc : Nat → ILoc) (el : List EvZ) : (ansE n lc el).length = n := by simp [ansE]

theorem ansE_same {n : Nat} (lc : Nat → ILoc) (el : List EvZ) (e : EvZ) (h : ¬ (e.a = 3 ∧ 0 ≤ e.t ∧ e.t < n)) : ansE n lc (el ++ [e]) = ansE n lc el := by
  refine List.map_congr_left fun t ht => ?_
  have ht := List.mem_range.1 ht
  rw [ansT_snoc, if_neg fun h2 => h ⟨h2.1, by omega⟩]

theorem ansE_more {n t : Nat} (lc : Nat → ILoc) (el : List EvZ) (e : EvZ) (ht : t < n) (h3 : e.a = 3) (he : e.t = t) (l : ILoc) :
    ((ansE n lc el).set t none).set t (some (l, (ansT t el).map rowZ ++ [rowZ e.v])) = ansE n (fun s => if s = t then l else lc s) (el ++ [e]) := by
  refine List.ext_getElem? fun s => ?_
  rcases Nat.lt_or_ge s n with hs | hs
  · rw [ansE_get _ _ hs]
    by_cases hst : s = t
    · subst hst
      rw [List.getElem?_set_self (by rw [List.length_set, ansE_len]; exact hs), if_pos rfl, ansT_snoc, if_pos ⟨h3, he⟩, List.map_append]
      rfl
    · rw [List.getElem?_set_ne (Ne.symm hst), List.getElem?_set_ne (Ne.symm hst), ansE_get _ _ hs, if_neg hst, ansT_snoc, if_neg fun h => hst (by omega)]
  · rw [List.getElem?_eq_none (by rw [List.length_set, List.length_set, ansE_len]; exact hs), List.getElem?_eq_none (by rw [ansE_len]; exact hs)]

theorem ansE_nil (n : Nat) : List.replicate (n : Int).toNat (some ((⟨0, 0, 0, 1⟩ : ILoc), ([] : List (List FC)))) = ansE n (fun _ => ⟨0, 0, 0, 1⟩) [] := by
  rw [Int.toNat_natCast]
  refine List.ext_getElem? fun s => ?_
  rcases Nat.lt_or_ge s n with hs | hs
  · rw [ansE_get _ _ hs, List.getElem?_replicate, if_pos hs]
    rfl
  · rw [List.getElem?_eq_none (by simpa using hs), List.getElem?_eq_none (by rw [ansE_len]; exact hs)]

theorem ansT_len (t : Nat) (el : List EvZ) : (ansT t el).length ≤ el.length := by
  rw [ansT, List.length_map]
  exact List.length_filter_le _ _

section
variable {K : AV → List Nat → List PO → Prop} {m : MZ} {v : VZ}

theorem answers (hw : WF m) (n : Nat) (hn : n ≤ 100) (h : K (cv (.slc 9 0 n none true)) [] (machH m v ++ [.rows2 false 1 ((ansL n m.el).map fun l => l.map rowZ)])) :
    Does Tryd.prog 38 [cv (.ptr 0 0), i64 n] (machH m v) K := by
  have hel := hw.el
  have hk := hw.k
  refine Does.shut ?_
  refine Does.cut 10 ?_
  refine does Tryd.func38 rfl (by decide) ?_
  refine And.intro (by omega) (And.intro (Int.le_refl _) (And.intro ?_ (And.intro (by omega) ?_)))
  · show (24 : Int) * (n : Int) ≤ _
    omega
  change Does Tryd.prog 48 _ _ _
  refine Does.on 10 [0, 1, 2, 3, 4, 5, 6, 7, 8] _ _ (coreEvents (m := m) (v := v) (by omega) ?_)
  refine SS.loop (fun p : Nat × (Nat → ILoc) => p.1 ≤ m.el.length) (fun p => [(1, i64 n), (5, cv (.slc 9 0 n none true)), (11, cv (.slc 10 0 m.el.length none false)), (12, i64 m.el.length), (13, i64 p.1)])
    (fun p => machH m v ++ [.rows3 true 1 (ansE n p.2 (m.el.take p.1)), .rows false 4 (m.el.map rowEv)]) (fun p => m.el.length - p.1) [13]
    (At.mk' [1, 5, 11, 12, 13] (0, fun _ => ⟨0, 0, 0, 1⟩) (by simp) ⟨rfl, rfl⟩ ?_ rfl (by simp) (by simp) (by simp)) ?_
  · rw [List.take_zero, ← ansE_nil]
    rfl
  rintro ⟨i, lc⟩ hi
  change i ≤ m.el.length at hi
  refine S_r ?_
  refine brc_intro (fun hlt => ?_) (fun hlt => ?_)
  · have hlt : i < m.el.length := by
      have := of_decide_eq_true hlt
      have : (i : Int) < (m.el.length : Int) := this
      omega
    obtain ⟨e, he⟩ : ∃ e, m.el[i]? = some e := ⟨_, List.getElem?_eq_getElem hlt⟩
    have htk : m.el.take (i + 1) = m.el.take i ++ [e] := by rw [List.take_add_one, he]; rfl
    have hup : IntKind.i64.wrap ((i : Int) + 1) = ((i + 1 : Nat) : Int) := wrap_i64 (i + 1) (by omega) (by omega)
    refine SS.inlR ?_
    refine at2 (a := (0 : Int) ≤ (i : Int)) (b := (i : Int) < (m.el.length : Int)) (by omega) (by omega) (rdA (rowEv e) (by simp [he]) ?_)
    have skip : ¬ (e.a = 3 ∧ 0 ≤ e.t ∧ e.t < n) → ansE n lc (m.el.take (i + 1)) = ansE n lc (m.el.take i) := fun h => by rw [htk]; exact ansE_same lc _ e h
    refine brc_intro (fun h1 => ?_) (fun h1 => ?_)
    · have h1 : e.a = 3 := by simpa using h1
      refine brc_intro (fun h2 => ?_) (fun h2 => ?_)
      · have h2 : e.t ≥ 0 := of_decide_eq_true h2
        refine brc_intro (fun h3 => ?_) (fun h3 => ?_)
        · have h3 : e.t < n := of_decide_eq_true h3
          obtain ⟨t, ht⟩ : ∃ t : Nat, e.t = t := ⟨e.t.toNat, by omega⟩
          refine SS.drawR follows (by decide) ?_
          have hg : (ansE n lc (m.el.take i))[0 + Int.toNat e.t]? = some (some (lc t, (ansT t (m.el.take i)).map rowZ)) := by rw [ht, Int.toNat_natCast, Nat.zero_add]; exact ansE_get _ _ (by omega)
          refine at2 (a := (0 : Int) ≤ e.t) (b := e.t < (n : Int)) (by omega) (by omega) (Exists.intro _ (Exists.intro _ (And.intro hg ?_)))
          have hal := ansT_len t (m.el.take i)
          rw [List.length_take] at hal
          have hrl : ((ansT t (m.el.take i)).map rowZ).length = (ansT t (m.el.take i)).length := List.length_map ..
          have b0 : (0 : Int) ≤ e.t := by omega
          have b1 : e.t < (n : Int) := by omega
          repeat' (first | refine And.intro rfl ?_ | refine And.intro (And.intro b0 (And.intro b1 rfl)) ?_ | refine And.intro (Exists.intro _ (Exists.intro _ (And.intro hg rfl))) ?_ | fail)
          refine Exists.intro _ (And.intro hg (And.intro rfl ?_))
          refine And.intro (by simp) (Or.inl (And.intro rfl (And.intro rfl (And.intro ?_ (And.intro ?_ ?_)))))
          · show (((ansT t (m.el.take i)).map rowZ).length + 1) * 8 ≤ _
            omega
          · show ((ansT t (m.el.take i)).map rowZ).length + 1 ≤ _
            omega
          repeat' (first | refine And.intro rfl ?_ | refine And.intro (And.intro b0 (And.intro b1 rfl)) ?_ | fail)
          refine at2 b0 b1 ?_
          have hnone : ((ansE n lc (m.el.take i)).set (0 + Int.toNat e.t) none)[0 + Int.toNat e.t]? = some none := List.getElem?_set_self (by rw [ansE_len]; omega)
          refine And.intro (by simp) (And.intro hnone fun l => ?_)
          repeat' (first | refine And.intro rfl ?_ | refine And.intro (And.intro b0 (And.intro b1 rfl)) ?_ | fail)
          have hmore := ansE_more (n := n) lc (m.el.take i) e (show t < n by omega) h1 ht l
          rw [← htk] at hmore
          refine At.mk' [1, 5, 11, 12, 13] (i + 1, fun s => if s = t then l else lc s) ⟨hlt, by show m.el.length - (i + 1) < m.el.length - i; omega⟩ ⟨?_, rfl⟩ ?_ rfl (by simp) (by simp) (by simp)
          · rw [hup]
            first | done | rfl
          · show _ = machH m v ++ [.rows3 true 1 (ansE n (fun s => if s = t then l else lc s) (m.el.take (i + 1))), .rows false 4 (m.el.map rowEv)]
            rw [← hmore, show t = 0 + Int.toNat e.t by omega]
            first | done | rfl
        · have h3 : ¬ e.t < n := of_decide_eq_false h3
          have skip := skip fun h => h3 h.2.2
          refine At.mk' [1, 5, 11, 12, 13] (i + 1, lc) ⟨hlt, by show m.el.length - (i + 1) < m.el.length - i; omega⟩ ⟨?_, rfl⟩ ?_ rfl (by simp) (by simp) (by simp)
          · rw [hup]
            first | done | rfl
          · rw [skip]
            first | done | rfl
      · have h2 : ¬ e.t ≥ 0 := of_decide_eq_false h2
        have skip := skip fun h => h2 h.2.1
        refine At.mk' [1, 5, 11, 12, 13] (i + 1, lc) ⟨hlt, by show m.el.length - (i + 1) < m.el.length - i; omega⟩ ⟨?_, rfl⟩ ?_ rfl (by simp) (by simp) (by simp)
        · rw [hup]
          first | done | rfl
        · rw [skip]
          first | done | rfl
    · have h1 : ¬ e.a = 3 := by simpa using h1
      have skip := skip fun h => h1 h.1
      refine At.mk' [1, 5, 11, 12, 13] (i + 1, lc) ⟨hlt, by show m.el.length - (i + 1) < m.el.length - i; omega⟩ ⟨?_, rfl⟩ ?_ rfl (by simp) (by simp) (by simp)
      · rw [hup]
        first | done | rfl
      · rw [skip]
        first | done | rfl
  · have hlt : ¬ (i : Int) < (m.el.length : Int) := of_decide_eq_false hlt
    obtain rfl : i = m.el.length := by omega
    rw [List.take_length]
    refine ⟨Nat.le_of_ble_eq_true rfl, Nat.le_of_ble_eq_true rfl, rfl, rfl, machH m v, true, 1, ansE n lc m.el, (ansL n m.el).map (fun l : List Int => l.map rowZ), n, none, true, rfl, rfl, rfl, rfl, by rw [ansE_len, List.length_map, ansL, List.length_map, List.length_range], fun s rs hs => ?_, h⟩
    rw [List.getElem?_map, Option.map_eq_some_iff] at hs
    obtain ⟨a, ha, rfl⟩ := hs
    rw [ansL, List.getElem?_map, Option.map_eq_some_iff] at ha
    obtain ⟨q, hq, rfl⟩ := ha
    obtain ⟨hqn, rfl⟩ : s < n ∧ q = s := by
      obtain ⟨h1, h2⟩ := List.getElem?_eq_some_iff.1 hq
      rw [List.getElem_range] at h2
      rw [List.length_range] at h1
      exact ⟨h1, h2.symm⟩
    exact ⟨_, ansE_get _ _ hqn⟩

end
end Go.Mac
