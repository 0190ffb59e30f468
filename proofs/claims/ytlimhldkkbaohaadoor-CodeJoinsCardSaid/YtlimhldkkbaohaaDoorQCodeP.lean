/- code.Parse: whatever the text. -/
import Derived.Test.YtlimhldkkbaohaaDoorQCodeG
open Go Go.Proofs Go.Mac
set_option maxRecDepth 100000
namespace Go.Mac

section
variable {K : AV → List Nat → List PO → Prop}

set_option maxHeartbeats 2000000 in
theorem codeParseG {s : List UInt8} (hs : s.length ≤ 1000000000) (h1 : ∀ xs, parseZ s = some xs → xs.length ≤ 600 → K (.tup [.c (.slc 3 0 xs.length none false), .c .niliface]) [] [powH, errS, errR, .rows false 5 (xs.map rowIns)])
    (h0 : (∀ xs, parseZ s = some xs → 600 < xs.length) → K (.tup [.c .nilslc, .c (.iface 115 (.f (.int .i64 4)))]) [] [powH, errS, errR])
    (h2 : parseZ s = none → ∀ e i : Int, K (.tup [.c .nilslc, .c (.iface 117 (.ptr 3 0))]) [] [powH, errS, errR, .one [.f (.int .i64 e), .f (.int .i64 i)]]) :
    Does Tryd.prog 25 [st s] [powH, errS, errR] K := by
  refine Does.keep 3 rfl ?_
  refine does Tryd.func25 rfl (by decide) ?_
  refine SS.nil 4 5 (by decide) rfl ?_
  refine SS.loop (fun x : List UInt8 × List InsZ => x.2.length ≤ 600 ∧ x.1.length ≤ s.length ∧ parseZ s = (parseZ x.1).map (x.2 ++ ·)) (fun x => [(0, st x.1), (4, cv (.slc 3 0 x.2.length none false))]) (fun x => [powH, errS, errR, .rows false 5 (x.2.map rowIns)]) (fun x => x.1.length) [3, 4, 5]
    (At.mk' [0, 4] (s, []) ⟨by simp, Nat.le_refl _, by simp⟩ ⟨rfl, rfl⟩ rfl rfl (by simp) (by simp) (by simp)) ?_
  rintro ⟨r, xs⟩ ⟨hx6, hrl, hp⟩
  dsimp only at hx6 hrl hp
  refine S_r ?_
  refine brc_intro (fun hne => ?_) (fun hne => ?_)
  · have hne : r ≠ [] := by simpa using hne
    change Does Tryd.prog 68 _ _ _
    refine Does.alone 4 (cutAll (s := r) (c := 10) (by omega) (fun l r' hc => ?_) fun hc => ?_)
    · have hcl := cut_len hc
      have hst := parseZ_step hc
      change Does Tryd.prog 69 _ _ _
      refine Does.on 4 [0, 1, 2] _ _ (codeOneG (s := l) (by omega) (fun x hx => ?_) fun hx x => ?_)
      · rw [hx] at hst
        dsimp only at hst
        refine brc_intro (fun h6 => ?_) (fun h6 => ?_)
        · have h6 : xs.length = 600 := by
            have : ((xs.length : Nat) : Int) = 600 := by simpa using h6
            omega
          refine ⟨3, [0, 1, 2], _, _, rfl, rfl, by decide, by decide, rfl, rfl, rfl, rfl, rfl, h0 fun ys hy => ?_⟩
          rw [hp, hst, Option.map_map, Option.map_eq_some_iff] at hy
          obtain ⟨zs, _, rfl⟩ := hy
          simp; omega
        · have h6 : xs.length ≠ 600 := fun e => by rw [e] at h6; simp at h6
          refine And.intro (by simp) (Or.inl (And.intro rfl (And.intro (by simp) (And.intro (by show (xs.length + 1) * 40 ≤ _; omega) (And.intro (by show xs.length + 1 ≤ _; omega) ?_)))))
          refine At.mk' [0, 4] (r', xs ++ [x]) ⟨⟨by simp; omega, by dsimp only; omega, ?_⟩, by dsimp only; omega⟩ ⟨?_, rfl⟩ ?_ rfl (by simp) (by simp) (by decide)
          · dsimp only
            rw [hp, hst, Option.map_map]
            congr 1
            funext ys
            simp
          · simp only [List.length_append, List.length_singleton]
            rfl
          · simp only [List.map_append, List.map_cons, List.map_nil]
            rfl
      · rw [hx] at hst
        dsimp only at hst
        refine ⟨6, [0, 1, 2, 5], _, _, rfl, rfl, by decide, by decide, rfl, rfl, rfl, rfl, rfl, h2 (by rw [hp, hst]; rfl) _ _⟩
    · have hst := parseZ_cut hne hc
      change Does Tryd.prog 69 _ _ _
      refine Does.on 4 [0, 1, 2] _ _ (codeOneG (s := r) (by omega) (fun x hx => ?_) fun hx x => ?_)
      · refine ⟨6, [0, 1, 2, 5], _, _, rfl, rfl, by decide, by decide, rfl, rfl, rfl, rfl, rfl, h2 (by rw [hp, hst]; rfl) _ _⟩
      · refine ⟨6, [0, 1, 2, 5], _, _, rfl, rfl, by decide, by decide, rfl, rfl, rfl, rfl, rfl, h2 (by rw [hp, hst]; rfl) _ _⟩
  · have hne : r = [] := by simpa using hne
    subst hne
    rw [parseZ_nil] at hp
    have hp : parseZ s = some xs := by rw [hp]; simp
    exact ⟨4, [0, 1, 2, 3], _, _, rfl, rfl, by decide, by decide, rfl, rfl, rfl, rfl, rfl, h1 xs hp hx6⟩

end
end Go.Mac
