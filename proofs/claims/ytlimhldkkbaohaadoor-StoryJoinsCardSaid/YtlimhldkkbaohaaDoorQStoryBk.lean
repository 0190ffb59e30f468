/- A story is printed, and read: StoryBack, StoryJoins. -/
import Derived.Test.YtlimhldkkbaohaaDoorQStoryP
import Derived.Test.YtlimhldkkbaohaaDoorQStoryG
import Derived.Test.YtlimhldkkbaohaaDoorQEqEv
import Derived.Test.YtlimhldkkbaohaaDoorQWritten
import Derived.Test.YtlimhldkkbaohaaDoorGBase
open Go Go.Proofs Go.Mac
set_option maxRecDepth 100000
namespace Go.Mac

abbrev storyW : List EvZ := [⟨3, 1, 1, 2⟩, ⟨9, 3, 0, -1⟩]
abbrev txtS : List UInt8 := [51, 32, 99, 97, 109, 101, 32, 49, 32, 50, 10, 57, 32, 116, 111, 108, 100, 32, 48, 32, 45, 49, 10]

theorem itoa_2 : Lib.itoa 2 = [50] := by simp [Lib.itoa, Lib.decDigits]
theorem itoa_3 : Lib.itoa 3 = [51] := by simp [Lib.itoa, Lib.decDigits]
theorem itoa_9 : Lib.itoa 9 = [57] := by simp [Lib.itoa, Lib.decDigits]

theorem printSW : printS storyW = txtS := by
  simp [printS, printE, wordsE, joinB, namesE, itoa_0, itoa_1, itoa_2, itoa_3, itoa_9, itoa_m1]

theorem storyW64 : ∀ e ∈ storyW, Ev64 e := fun e he => by
  simp only [List.mem_cons, List.not_mem_nil, or_false] at he
  rcases he with rfl | rfl <;> exact ⟨⟨by decide, by decide⟩, ⟨by decide, by decide⟩, ⟨by decide, by decide⟩, ⟨by decide, by decide⟩⟩

theorem storyWr : rightE 0 storyW = true := by decide

theorem parseSW : parseS [] txtS = some storyW := by
  rw [← printSW]
  exact parse_printS storyW [] storyWr storyW64

section
variable {K : AV → List Nat → List PO → Prop}

theorem storied (h : K (bl true) [] [powH, errS, errR, namesH]) : Does Tryd.prog 28 [] [powH, errS, errR, namesH] K := by
  refine Does.keep 4 rfl ?_
  refine does Tryd.func28 rfl (by decide) ?_
  change Does Tryd.prog 30 _ _ _
  refine Does.on 5 [0, 3, 4] _ _ (storyPrint (all := storyW) (es := storyW) (n := 2) (o := 0) (ro := false) rfl (fun i _ => by rw [Nat.zero_add]) (by decide) storyW64 (fun _ => ?_) fun hr => absurd (storyWr.symm.trans hr) (by decide))
  rw [printSW]
  change Does Tryd.prog 31 _ _ _
  refine Does.on 5 [0, 1, 2, 3] _ _ (storyParse (s := txtS) (by decide) (fun xs hx => ?_) fun hx => by rw [parseSW] at hx; cases hx)
  obtain rfl : storyW = xs := Option.some.inj (parseSW.symm.trans hx)
  change Does Tryd.prog 32 _ _ _
  refine Does.on 6 [4, 5] _ _ (equalEv (xs := storyW) (ys := storyW) (by decide) (fun _ => ?_) fun h => absurd rfl h)
  exact ⟨4, [0, 1, 2, 3], _, _, rfl, rfl, by decide, by decide, rfl, rfl, rfl, rfl, rfl, h⟩

end

set_option maxHeartbeats 2000000 in
theorem storyBack (p : List EvZ) (h64 : ∀ x ∈ p, Ev64 x) (_hl : p.length ≤ 9223372036854775807) (s : List UInt8) (_hs : s.length ≤ 140737488355328) :
    Does Tryd.prog 7 [cv (.slc 0 0 p.length none false), st s] [.rows true 4 (p.map rowEv), powH, errS, errR, namesH] fun v _ _ => v = bl true := by
  refine does Tryd.func7 rfl (by decide) ?_
  change Does Tryd.prog 28 _ _ _
  refine Does.on 5 [1, 2, 3, 4] _ _ (storied ?_)
  refine brc_intro (fun _ => rfl) (fun h => ?_)
  have hl : p.length ≤ 100 := by
    have := of_decide_eq_false h
    omega
  refine brc_intro (fun _ => rfl) (fun h => ?_)
  have hsl : s.length ≤ 2000 := by
    have := of_decide_eq_false h
    omega
  change Does Tryd.prog 29 _ _ _
  refine Does.on 5 [0] _ _ (storyRight (all := p) (es := p) (n := p.length) rfl (fun i _ => by rw [Nat.zero_add]) (by omega) ?_)
  cases hr : rightE 0 p with
  | true =>
    change Does Tryd.prog 30 _ _ _
    refine Does.on 5 [1, 4, 0] _ _ (storyPrint (all := p) (es := p) (n := p.length) (o := 0) rfl (fun i _ => by rw [Nat.zero_add]) (by omega) h64 (fun _ => ?_) fun h => absurd (hr.symm.trans h) (by decide))
    have hpl := printS_len p h64
    have hpp := parse_printS p [] hr h64
    change Does Tryd.prog 31 _ _ _
    refine Does.on 5 [1, 2, 3, 4] _ _ (storyParse (s := printS p) (by omega) (fun xs hx => ?_) fun hx => by rw [hpp] at hx; cases hx)
    obtain rfl : p = xs := Option.some.inj (hpp.symm.trans hx)
    change Does Tryd.prog 32 _ _ _
    refine Does.on 6 [0, 5] _ _ (equalEv (xs := p) (ys := p) (by omega) (fun _ => ?_) fun h => absurd rfl h)
    change Does Tryd.prog 26 _ _ _
    refine Does.alone 6 (strCount _ _ ?_)
    rw [print_linesS p hr]
    refine brc_intro (fun h => absurd h (by simp)) (fun _ => ?_)
    change Does Tryd.prog 31 _ _ _
    refine Does.on 6 [1, 2, 3, 4] _ _ (storyParse (s := s) (by omega) (fun xs hx => ?_) fun hx e i => rfl)
    obtain ⟨h0, hps, hx64⟩ := parse_backS hx
    change Does Tryd.prog 30 _ _ _
    have hxl := print_linesS xs h0
    have hcl := count_len (c := 10) (printS xs)
    rw [hps] at hxl hcl
    refine Does.on 7 [1, 4, 6] _ _ (storyPrint (all := xs) (es := xs) (n := xs.length) (o := 0) rfl (fun i _ => by rw [Nat.zero_add]) (by omega) hx64 (fun _ => ?_) fun h => absurd (h0.symm.trans h) (by decide))
    rw [hps]
    show bl (s == s) = bl true
    simp
  | false =>
    change Does Tryd.prog 30 _ _ _
    refine Does.on 5 [1, 4, 0] _ _ (storyPrint (all := p) (es := p) (n := p.length) (o := 0) rfl (fun i _ => by rw [Nat.zero_add]) (by omega) h64 (fun h => absurd (hr.symm.trans h) (by decide)) fun _ => ?_)
    change Does Tryd.prog 31 _ _ _
    refine Does.on 5 [1, 2, 3, 4] _ _ (storyParse (s := s) (by omega) (fun xs hx => ?_) fun hx e i => rfl)
    obtain ⟨h0, hps, hx64⟩ := parse_backS hx
    change Does Tryd.prog 30 _ _ _
    have hxl := print_linesS xs h0
    have hcl := count_len (c := 10) (printS xs)
    rw [hps] at hxl hcl
    refine Does.on 6 [1, 4, 5] _ _ (storyPrint (all := xs) (es := xs) (n := xs.length) (o := 0) rfl (fun i _ => by rw [Nat.zero_add]) (by omega) hx64 (fun _ => ?_) fun h => absurd (h0.symm.trans h) (by decide))
    rw [hps]
    show bl (s == s) = bl true
    simp

end Go.Mac
