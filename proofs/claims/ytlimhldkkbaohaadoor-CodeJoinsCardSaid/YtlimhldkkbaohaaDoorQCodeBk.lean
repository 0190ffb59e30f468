/- What is printed is parsed; just one text: CodeBack, CodeOnly. -/
import Derived.Test.YtlimhldkkbaohaaDoorQCodeP
import Derived.Test.YtlimhldkkbaohaaDoorQCodePr
import Derived.Test.YtlimhldkkbaohaaDoorQEqIns
import Derived.Test.YtlimhldkkbaohaaDoorQWritten
import Derived.Test.YtlimhldkkbaohaaDoorQOpenPrg
open Go Go.Proofs Go.Mac
set_option maxRecDepth 100000
namespace Go.Mac

theorem printW : printZ prW = txtW := by
  simp [printZ, printL, wordsZ, joinB, nameZ, fo, formZ, argZ, List.range, List.range.loop, List.filter, itoa_0, itoa_1, itoa_m1, itoa_m5]

theorem prW_ok : ∀ x ∈ prW, InsOk x := fun x hx => by
  simp only [List.mem_cons, List.not_mem_nil, or_false] at hx
  rcases hx with rfl | rfl | rfl <;> exact ⟨by decide, ⟨by decide, by decide⟩, ⟨by decide, by decide⟩, ⟨by decide, by decide⟩, ⟨by decide, by decide⟩⟩

theorem parseW : parseZ txtW = some prW := by
  rw [← printW, parse_print prW prW_ok]
  rfl

section
variable {K : AV → List Nat → List PO → Prop}

theorem writtenG (h : K (bl true) [] [powH, errS, errR]) : Does Tryd.prog 22 [] [powH, errS, errR] K := by
  refine does Tryd.func22 rfl (by decide) ?_
  change Does Tryd.prog 25 _ _ _
  refine codeParseG (s := txtW) (by decide) (fun xs hx _ => ?_) (fun hx => absurd (hx _ parseW) (by decide)) (fun hx => by rw [parseW] at hx; cases hx)
  obtain rfl : prW = xs := Option.some.inj (parseW.symm.trans hx)
  change Does Tryd.prog 21 _ _ _
  refine Does.on 5 [3, 4] _ _ (equalIns (xs := prW) (ys := prW) (by decide) (fun _ => ?_) fun h => absurd rfl h)
  change Does Tryd.prog 23 _ _ _
  refine Does.on 5 [3] _ _ (right (p := prW) (k := 3) 2 rfl (by decide) (fun _ => ?_) (fun h => absurd h (by decide)) fun h => absurd h (by decide))
  change Does Tryd.prog 23 _ _ _
  refine Does.on 5 [3] _ _ (right (p := prW) (k := 3) 1 rfl (by decide) (fun h => absurd h (by decide)) (fun _ e => ?_) fun _ e i => ?_)
  · exact h
  · exact h

end

theorem right_ok {p : List InsZ} {cells : Int} (h64 : ∀ x ∈ p, Ins64 x) (h : rightZ p cells = true) : (∀ x ∈ p, InsOk x) ∧ p.map normZ = p := by
  simp only [rightZ, Bool.and_eq_true, List.all_eq_true] at h
  obtain ⟨⟨_, h⟩, _⟩ := h
  refine ⟨fun x hx => ?_, ?_⟩
  · have := h x hx
    simp only [okI, Bool.and_eq_true, decide_eq_true_eq] at this
    obtain ⟨xa, xb, xc, xd⟩ := h64 x hx
    exact ⟨this.1.1.1.1, xa, xb, xc, xd⟩
  · conv => rhs; rw [← List.map_id p]
    exact List.map_congr_left fun x hx => right_norm (h x hx)

set_option maxHeartbeats 2000000 in
theorem codeBack (p : List InsZ) (h64 : ∀ x ∈ p, Ins64 x) (_hl : p.length ≤ 9223372036854775807) (cells : Int) (_hc : -9223372036854775808 ≤ cells ∧ cells ≤ 9223372036854775807) :
    Does Tryd.prog 4 [cv (.slc 0 0 p.length none false), i64 cells] [.rows true 5 (p.map rowIns), powH, errS, errR] fun v _ _ => v = bl true := by
  refine does Tryd.func4 rfl (by decide) ?_
  change Does Tryd.prog 22 _ _ _
  refine Does.on 4 [1, 2, 3] _ _ (writtenG ?_)
  refine brc_intro (fun _ => rfl) (fun h => ?_)
  have hl : p.length ≤ 600 := by
    have := of_decide_eq_false h
    omega
  change Does Tryd.prog 23 _ _ _
  refine Does.on 4 [0] _ _ (right (p := p) (k := p.length) cells rfl (by omega) (fun hr => ?_) (fun _ e => rfl) fun _ e i => rfl)
  obtain ⟨hok, hnm⟩ := right_ok h64 hr
  change Does Tryd.prog 24 _ _ _
  refine Does.on 4 [1, 0] _ _ (codePrint (p := p) (n := p.length) rfl (by omega) h64 (fun _ => ?_) fun h => absurd hok h)
  have hpp := parse_print p hok
  rw [hnm] at hpp
  have hpl := printZ_len p hok
  have hct := print_lines p hok
  change Does Tryd.prog 25 _ _ _
  refine Does.on 4 [1, 2, 3] _ _ (codeParseG (s := printZ p) (by omega) (fun xs hx _ => ?_) (fun hx => absurd (hx _ hpp) (by omega)) (fun hx => by rw [hpp] at hx; cases hx))
  obtain rfl : p = xs := Option.some.inj (hpp.symm.trans hx)
  change Does Tryd.prog 21 _ _ _
  refine Does.on 5 [0, 4] _ _ (equalIns (xs := p) (ys := p) (by omega) (fun _ => ?_) fun h => absurd rfl h)
  change Does Tryd.prog 26 _ _ _
  refine Does.alone 5 (strCount _ _ ?_)
  rw [hct]
  show bl (((p.length : Nat) : Int) == ((p.length : Nat) : Int)) = bl true
  simp

set_option maxHeartbeats 2000000 in
theorem codeOnly (s : List UInt8) (_hs : s.length ≤ 140737488355328) :
    Does Tryd.prog 5 [st s] [powH, errS, errR] fun v _ _ => v = bl true := by
  refine does Tryd.func5 rfl (by decide) ?_
  change Does Tryd.prog 22 _ _ _
  refine writtenG ?_
  refine brc_intro (fun _ => rfl) (fun h => ?_)
  have hl : s.length ≤ 5000 := by
    have := of_decide_eq_false h
    omega
  change Does Tryd.prog 25 _ _ _
  refine codeParseG (s := s) (by omega) (fun xs hx hx6 => ?_) (fun hx => rfl) (fun hx e i => rfl)
  obtain ⟨hpr, hall⟩ := parse_back hx
  have hok : ∀ x ∈ xs, InsOk x := fun x hx => (hall x hx).1
  change Does Tryd.prog 24 _ _ _
  refine Does.on 4 [0, 3] _ _ (codePrint (p := xs) (n := xs.length) rfl (by omega) (fun x hx => ⟨(hok x hx).a, (hok x hx).b, (hok x hx).c, (hok x hx).d⟩) (fun _ => ?_) fun h => absurd hok h)
  rw [hpr]
  show bl (s == s) = bl true
  simp

end Go.Mac
