/- slices.Repeat of one slice: as many that share. -/
import Derived.Test.YtnkmddcadkcdcaaDoorGBase
import Derived.Test.YtnkmddcadkcdcaaDoorQCallZ
open Go Go.Proofs Go.Mac
set_option maxRecDepth 100000
namespace Go.Mac

section
variable {K : AV → List Nat → List PO → Prop}

theorem mulBits (y : Nat) (hy : y ≤ 16) (h : K (.tup [.c (.f (.int .u64 0)), .c (.f (.int .u64 y))]) [] []) : Does Tryd.prog 83 [u64 1, u64 y] [] K := by
  rcases (show y = 0 ∨ y = 1 ∨ y = 2 ∨ y = 3 ∨ y = 4 ∨ y = 5 ∨ y = 6 ∨ y = 7 ∨ y = 8 ∨ y = 9 ∨ y = 10 ∨ y = 11 ∨ y = 12 ∨ y = 13 ∨ y = 14 ∨ y = 15 ∨ y = 16 by omega) with rfl | rfl | rfl | rfl | rfl | rfl | rfl | rfl | rfl | rfl | rfl | rfl | rfl | rfl | rfl | rfl | rfl
  all_goals
    refine does Tryd.func83 rfl (by decide) ?_
    change Does Tryd.prog 112 _ _ _
    refine does Tryd.func112 rfl (by decide) ?_
    exact h

/-- The slices that are there already, and those that are not yet. -/
def repE (l : ILoc) (p : List (List FC)) (n k : Nat) (sz : Nat) : List (Option (ILoc × List (List FC))) := List.replicate k (some (l, p)) ++ List.replicate (n - k) (some (⟨0, 0, 0, sz⟩, []))

theorem repE_len {l : ILoc} {p : List (List FC)} {n k sz : Nat} (hk : k ≤ n) : (repE l p n k sz).length = n := by simp [repE]; omega

theorem repE_over {l : ILoc} {p : List (List FC)} {n k m sz : Nat} (hk : k + m ≤ n) : over (repE l p n k sz) k (List.replicate m (some (l, p))) = repE l p n (k + m) sz := by
  rw [over, repE, repE, List.take_append_of_le_length (by simp), List.length_replicate, List.drop_append, List.drop_eq_nil_of_le (by simp), List.nil_append, List.length_replicate]
  simp only [List.take_replicate, List.drop_replicate, Nat.min_self]
  rw [List.replicate_append_replicate, show k + m - k = m by omega, show n - k - m = n - (k + m) by omega]

theorem repE_take {l : ILoc} {p : List (List FC)} {n k m sz : Nat} (hm : m ≤ k) : ((repE l p n k sz).drop 0).take m = List.replicate m (some (l, p)) := by
  rw [List.drop_zero, repE, List.take_append_of_le_length (by simpa using hm), List.take_replicate, Nat.min_eq_left hm]

theorem repeatCalls {n : Nat} {p : List (List FC)} {nn : Bool} (hn : 1 ≤ n ∧ n ≤ 16) (h : K (cv (.slc 1 0 n none true)) [0] [.gone, .rows2 false 2 (List.replicate n p)]) :
    Does Tryd.prog 47 [cv (.slc 0 0 1 none nn), i64 n] [.rows2 false 2 [p]] K := by
  refine Does.shut ?_
  refine does Tryd.func47 rfl (by decide) ?_
  change Does Tryd.prog 83 _ _ _
  rw [show IntKind.u64.wrap ((1 : Nat) : Int) = 1 from rfl, wrap_u64 (n : Int) (by omega) (by omega)]
  refine Does.alone 1 (mulBits n hn.2 ?_)
  refine brc_intro (fun h => ?_) (fun _ => ?_)
  · have h := of_decide_eq_true h
    have h : (n : Int) > 9223372036854775807 := h
    omega
  have wn : IntKind.i64.wrap (n : Int) = n := wrap_i64 _ (by omega) (by omega)
  refine And.intro ?_ (And.intro (Int.le_refl _) (And.intro ?_ (And.intro ?_ ?_)))
  · rw [wn]; omega
  · rw [wn]
    show (24 : Int) * (n : Int) ≤ _
    omega
  · rw [wn]; omega
  rw [wn, Int.toNat_natCast]
  refine And.intro (by simp) (And.intro (by simp) fun inn => ?_)
  have e0 : over (List.replicate n (some ((⟨0, 0, 0, 2⟩ : ILoc), ([] : List (List FC))))) 0 (List.replicate 1 (some (inn 0, p))) = repE (inn 0) p n 1 2 := by
    have := repE_over (l := inn 0) (p := p) (n := n) (k := 0) (m := 1) (sz := 2) (by omega)
    simpa [repE] using this
  have e1 : min 1 n = 1 := by omega
  refine SS.loop (fun k : Nat => 1 ≤ k ∧ k ≤ n) (fun k => [(7, cv (.slc 1 0 n none true)), (8, i64 k)]) (fun k => [.gone, .rows3 false 2 (repE (inn 0) p n k 2)]) (fun k => n - k) [0]
    (At.mk' [7, 8] 1 ⟨Nat.le_refl _, hn.1⟩ ⟨?_, rfl⟩ ?_ rfl (by simp) (by simp) (by simp)) ?_
  · rw [e1]
    rfl
  · rw [← e0, e1]
    rfl
  rintro k ⟨hk1, hkn⟩
  refine S_r ?_
  refine brc_intro (fun hlt => ?_) (fun hlt => ?_)
  · have hlt : k < n := by
      have := of_decide_eq_true hlt
      have : (k : Int) < (n : Int) := this
      omega
    refine SS.drawR follows (by decide) ?_
    refine at2 (by omega) (by omega) ?_
    refine at2 (by omega) (by omega) ?_
    have c0 : (0 : Int) ≤ (k : Int) := by omega
    have c1 : (k : Int) ≤ (n : Int) := by omega
    repeat' (first | refine And.intro rfl ?_ | refine And.intro (And.intro c0 (And.intro c1 rfl)) ?_ | fail)
    have hl1 : (repE (inn 0) p n k 2).length = n := repE_len hkn
    refine And.intro (by rw [hl1]; omega) (And.intro (by rw [hl1]; omega) ?_)
    have e2 : ((k : Int).toNat - 0) = k := by omega
    have e3 : (n - (k : Int).toNat) = n - k := by omega
    have e4 : (0 + (k : Int).toNat) = k := by omega
    rw [e2, e3, e4]
    have e5 : ((repE (inn 0) p n k 2).drop (0 + 0)).take (min k (n - k)) = List.replicate (min k (n - k)) (some (inn 0, p)) := repE_take (Nat.min_le_left _ _)
    have e6 := repE_over (l := inn 0) (p := p) (n := n) (k := k) (m := min k (n - k)) (sz := 2) (by omega)
    rw [e5]
    refine And.intro (fun x hx => by rw [(List.mem_replicate.1 hx).2]; rfl) ?_
    rw [e6]
    repeat' (first | refine And.intro rfl ?_ | refine And.intro (And.intro c0 (And.intro c1 rfl)) ?_ | fail)
    refine At.mk' [7, 8] (k + min k (n - k)) ⟨⟨by omega, by omega⟩, by omega⟩ ⟨?_, rfl⟩ rfl rfl (by simp) (by simp) (by decide)
    rw [show IntKind.i64.wrap ((k : Int) + ((min k (n - k) : Nat) : Int)) = ((k + min k (n - k) : Nat) : Int) from wrap_i64 _ (by omega) (by omega)]
  · have hlt : ¬ (k : Int) < (n : Int) := of_decide_eq_false hlt
    obtain rfl : k = n := by omega
    refine ⟨[.gone], false, 2, repE (inn 0) p k k 2, List.replicate k p, k, none, true, rfl, rfl, rfl, rfl, by rw [repE_len (Nat.le_refl _), List.length_replicate], fun i rs hi => ?_, h⟩
    obtain rfl := List.eq_of_mem_replicate (List.mem_of_getElem? hi)
    have hik : i < k := by have := (List.getElem?_eq_some_iff.1 hi).1; simpa using this
    exact ⟨inn 0, by rw [repE, List.getElem?_append_left (by simpa using hik), List.getElem?_replicate, if_pos hik]⟩

theorem repeatIns {n : Nat} {p : List (List FC)} {nn : Bool} (hn : 1 ≤ n ∧ n ≤ 16) (h : K (cv (.slc 1 0 n none true)) [0] [.gone, .rows2 false 5 (List.replicate n p)]) :
    Does Tryd.prog 81 [cv (.slc 0 0 1 none nn), i64 n] [.rows2 false 5 [p]] K := by
  refine Does.shut ?_
  refine does Tryd.func81 rfl (by decide) ?_
  change Does Tryd.prog 83 _ _ _
  rw [show IntKind.u64.wrap ((1 : Nat) : Int) = 1 from rfl, wrap_u64 (n : Int) (by omega) (by omega)]
  refine Does.alone 1 (mulBits n hn.2 ?_)
  refine brc_intro (fun h => ?_) (fun _ => ?_)
  · have h := of_decide_eq_true h
    have h : (n : Int) > 9223372036854775807 := h
    omega
  have wn : IntKind.i64.wrap (n : Int) = n := wrap_i64 _ (by omega) (by omega)
  refine And.intro ?_ (And.intro (Int.le_refl _) (And.intro ?_ (And.intro ?_ ?_)))
  · rw [wn]; omega
  · rw [wn]
    show (24 : Int) * (n : Int) ≤ _
    omega
  · rw [wn]; omega
  rw [wn, Int.toNat_natCast]
  refine And.intro (by simp) (And.intro (by simp) fun inn => ?_)
  have e0 : over (List.replicate n (some ((⟨0, 0, 0, 5⟩ : ILoc), ([] : List (List FC))))) 0 (List.replicate 1 (some (inn 0, p))) = repE (inn 0) p n 1 5 := by
    have := repE_over (l := inn 0) (p := p) (n := n) (k := 0) (m := 1) (sz := 5) (by omega)
    simpa [repE] using this
  have e1 : min 1 n = 1 := by omega
  refine SS.loop (fun k : Nat => 1 ≤ k ∧ k ≤ n) (fun k => [(7, cv (.slc 1 0 n none true)), (8, i64 k)]) (fun k => [.gone, .rows3 false 5 (repE (inn 0) p n k 5)]) (fun k => n - k) [0]
    (At.mk' [7, 8] 1 ⟨Nat.le_refl _, hn.1⟩ ⟨?_, rfl⟩ ?_ rfl (by simp) (by simp) (by simp)) ?_
  · rw [e1]
    rfl
  · rw [← e0, e1]
    rfl
  rintro k ⟨hk1, hkn⟩
  refine S_r ?_
  refine brc_intro (fun hlt => ?_) (fun hlt => ?_)
  · have hlt : k < n := by
      have := of_decide_eq_true hlt
      have : (k : Int) < (n : Int) := this
      omega
    refine SS.drawR follows (by decide) ?_
    refine at2 (by omega) (by omega) ?_
    refine at2 (by omega) (by omega) ?_
    have c0 : (0 : Int) ≤ (k : Int) := by omega
    have c1 : (k : Int) ≤ (n : Int) := by omega
    repeat' (first | refine And.intro rfl ?_ | refine And.intro (And.intro c0 (And.intro c1 rfl)) ?_ | fail)
    have hl1 : (repE (inn 0) p n k 5).length = n := repE_len hkn
    refine And.intro (by rw [hl1]; omega) (And.intro (by rw [hl1]; omega) ?_)
    have e2 : ((k : Int).toNat - 0) = k := by omega
    have e3 : (n - (k : Int).toNat) = n - k := by omega
    have e4 : (0 + (k : Int).toNat) = k := by omega
    rw [e2, e3, e4]
    have e5 : ((repE (inn 0) p n k 5).drop (0 + 0)).take (min k (n - k)) = List.replicate (min k (n - k)) (some (inn 0, p)) := repE_take (Nat.min_le_left _ _)
    have e6 := repE_over (l := inn 0) (p := p) (n := n) (k := k) (m := min k (n - k)) (sz := 5) (by omega)
    rw [e5]
    refine And.intro (fun x hx => by rw [(List.mem_replicate.1 hx).2]; rfl) ?_
    rw [e6]
    repeat' (first | refine And.intro rfl ?_ | refine And.intro (And.intro c0 (And.intro c1 rfl)) ?_ | fail)
    refine At.mk' [7, 8] (k + min k (n - k)) ⟨⟨by omega, by omega⟩, by omega⟩ ⟨?_, rfl⟩ rfl rfl (by simp) (by simp) (by decide)
    rw [show IntKind.i64.wrap ((k : Int) + ((min k (n - k) : Nat) : Int)) = ((k + min k (n - k) : Nat) : Int) from wrap_i64 _ (by omega) (by omega)]
  · have hlt : ¬ (k : Int) < (n : Int) := of_decide_eq_false hlt
    obtain rfl : k = n := by omega
    refine ⟨[.gone], false, 5, repE (inn 0) p k k 5, List.replicate k p, k, none, true, rfl, rfl, rfl, rfl, by rw [repE_len (Nat.le_refl _), List.length_replicate], fun i rs hi => ?_, h⟩
    obtain rfl := List.eq_of_mem_replicate (List.mem_of_getElem? hi)
    have hik : i < k := by have := (List.getElem?_eq_some_iff.1 hi).1; simpa using this
    exact ⟨inn 0, by rw [repE, List.getElem?_append_left (by simpa using hik), List.getElem?_replicate, if_pos hik]⟩

end
end Go.Mac
