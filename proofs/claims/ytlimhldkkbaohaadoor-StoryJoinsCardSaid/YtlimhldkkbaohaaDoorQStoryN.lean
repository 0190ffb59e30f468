/- story.number. -/
import Derived.Test.YtlimhldkkbaohaaDoorQStoryT
import Derived.Test.YtlimhldkkbaohaaDoorQSplitG
open Go Go.Proofs Go.Mac
set_option maxRecDepth 100000
namespace Go.Mac

section
variable {K : AV → List Nat → List PO → Prop}

set_option maxHeartbeats 1000000 in
theorem storyNumber {s : List UInt8} {b : Bool} (hs : s.length ≤ 1000000000) (h1 : ∀ v, tokV s = some v → K (i64 v) [] [.one [.f (.bool b)], powH, errS, errR])
    (h0 : tokV s = none → ∀ v : Int, K (i64 v) [] [.one [.f (.bool false)], powH, errS, errR]) : Does Tryd.prog 106 [st s, cv (.ptr 0 0)] [.one [.f (.bool b)], powH, errS, errR] K := by
  refine Does.keep 4 rfl ?_
  refine does Tryd.func106 rfl (by decide) ?_
  change Does Tryd.prog 104 _ _ _
  refine Does.on 4 [2, 3] _ _ (atoiText s hs (fun v hv => ?_) fun hv n => ?_)
  · have hv64 := atoi_range hv
    cases b with
    | false =>
      refine ⟨4, [0, 1, 2, 3], [.one [.f (.bool false)], powH, errS, errR], i64 v, rfl, rfl, by decide, by decide, rfl, rfl, rfl, rfl, rfl, ?_⟩
      cases ht : tokV s with
      | none => exact h0 ht v
      | some u =>
        have : u = v := by
          unfold tokV at ht
          rw [hv] at ht
          dsimp only at ht
          split at ht
          · exact (Option.some.inj ht).symm
          · cases ht
        rw [this] at ht
        exact h1 v ht
    | true =>
      change Does Tryd.prog 66 _ _ _
      refine Does.on 4 [1] _ _ (strItoa v hv64.1 hv64.2 ?_)
      by_cases hi : Lib.itoa v = s
      · refine ⟨4, [0, 1, 2, 3], [.one [.f (.bool (Lib.itoa v == s))], powH, errS, errR], i64 v, rfl, rfl, by decide, by decide, rfl, rfl, rfl, rfl, rfl, ?_⟩
        have e : (Lib.itoa v == s) = true := by simpa using hi
        show K (i64 v) [] [.one [.f (.bool (Lib.itoa v == s))], powH, errS, errR]
        rw [e]
        exact h1 v (by rw [tokV, hv]; exact if_pos hi)
      · refine ⟨4, [0, 1, 2, 3], [.one [.f (.bool (Lib.itoa v == s))], powH, errS, errR], i64 v, rfl, rfl, by decide, by decide, rfl, rfl, rfl, rfl, rfl, ?_⟩
        have e : (Lib.itoa v == s) = false := by simpa using hi
        show K (i64 v) [] [.one [.f (.bool (Lib.itoa v == s))], powH, errS, errR]
        rw [e]
        exact h0 (by rw [tokV, hv]; exact if_neg hi) v
  · have hn : tokV s = none := by
      unfold tokV
      split
      · rename_i v hv'
        exact absurd hv' (hv v)
      · rfl
    cases b with
    | false => exact ⟨4, [0, 1, 2, 3], _, i64 n, rfl, rfl, by decide, by decide, rfl, rfl, rfl, rfl, rfl, h0 hn n⟩
    | true => exact ⟨4, [0, 1, 2, 3], _, i64 n, rfl, rfl, by decide, by decide, rfl, rfl, rfl, rfl, rfl, h0 hn n⟩

theorem storyNumberS {s : List UInt8} {b : Bool} (hs : s.length ≤ 1000000000) (h : ∀ v : Int, (∀ u, tokV s = some u → v = u) → K (i64 v) [] [.one [.f (.bool (b && (tokV s).isSome))], powH, errS, errR]) :
    Does Tryd.prog 106 [st s, cv (.ptr 0 0)] [.one [.f (.bool b)], powH, errS, errR] K := by
  refine storyNumber hs (fun v hv => ?_) fun hn v => ?_
  · have := h v fun u hu => Option.some.inj (hv.symm.trans hu)
    rw [hv, Option.isSome_some, Bool.and_true] at this
    exact this
  · have := h v fun u hu => by rw [hn] at hu; cases hu
    rw [hn, Option.isSome_none, Bool.and_false] at this
    exact this

end
end Go.Mac
