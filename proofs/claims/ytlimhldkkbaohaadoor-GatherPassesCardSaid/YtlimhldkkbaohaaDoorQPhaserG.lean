/- What phaser.Do does, beside the texts of gather. -/
import Derived.Test.YtlimhldkkbaohaaDoorQGather
open Go Go.Proofs Go.Mac
set_option maxRecDepth 100000
namespace Go.Mac

structure Ph where
  o : Bool
  ph : Int
  pa : Int
  wa : Int

def Ph.right (p : Ph) : Bool := pkRightB p.ph p.pa p.wa

abbrev Ph.c (p : Ph) : PV := pkPhaseC p.o p.ph p.pa p.wa

/-- What comes of a call, and its answer; nothing: it may not be. -/
def phDo (p : Ph) (w n : Int) : Option (Ph × Int) :=
  if p.right = false ∨ gFitB w n = false ∨ w = 9 then none
  else if p.o = true then some (p, -1)
  else if w = 6 then (if p.pa + n > 65535 then some (p, -3) else some (⟨false, p.ph, p.pa + n, p.wa + n⟩, p.ph))
  else if w = 10 then (if p.ph = n then some (p, -4) else some (p, p.ph))
  else if w = 11 then some (⟨true, p.ph, p.pa, p.wa⟩, 0)
  else if p.wa = 0 then some (p, -2)
  else if p.wa - 1 > 0 then some (⟨false, p.ph, if w = 8 then p.pa - 1 else p.pa, p.wa - 1⟩, p.ph)
  else if (if w = 8 then p.pa - 1 else p.pa) = 0 then some (⟨true, p.ph, if w = 8 then p.pa - 1 else p.pa, p.wa - 1⟩, p.ph)
  else some (⟨false, (p.ph + 1) % 2147483648, if w = 8 then p.pa - 1 else p.pa, if w = 8 then p.pa - 1 else p.pa⟩, p.ph)

section
variable {K : AV → List Nat → List PO → Prop}

theorem phNext (p : Ph) (hp : 0 ≤ p.ph ∧ p.ph < 2147483648) (hK : K (.p (Ph.c ⟨p.o, (p.ph + 1) % 2147483648, p.pa, p.pa⟩)) [] []) : Does Tryd.prog 80 [.p p.c] [] K := by
  refine does Tryd.func80 rfl (by decide) ?_
  refine eqz (K := fun z => K (.p (Ph.c ⟨p.o, z, p.pa, p.pa⟩)) [] []) hK ?_
  show (p.ph + 1) % 2147483648 = Int.tmod (IntKind.i64.wrap (p.ph + 1)) 2147483648
  rw [wrap_i64 _ (by omega) (by omega), Int.tmod_eq_emod_of_nonneg (by omega)]

theorem phaserDo (p : Ph) (w n : Int) (h0 : phDo p w n = none → K (.tup [pkPhaseC false 0 0 0, .c (.f (.int .i64 0)), pkErrC 1]) [] []) (h1 : ∀ r a, phDo p w n = some (r, a) → K (.tup [r.c, .c (.f (.int .i64 a)), pkOkC]) [] []) :
    Does Tryd.prog 39 [.p p.c, .p (callG w n)] [] K := by
  obtain ⟨o, ph, pa, wa⟩ := p
  refine does Tryd.func39 rfl (by decide) ?_
  change Does Tryd.prog 79 _ _ _
  refine Does.alone 3 (pkRight _ _ _ _ ?_)
  refine brc_intro (fun h => h0 (by simp at h; simp [phDo, Ph.right, h])) (fun hr => ?_)
  have hR : pkRightB ph pa wa = true := by simpa using hr
  clear hr
  have hb := pkRightB_iff.1 hR
  change Does Tryd.prog 60 _ _ _
  refine Does.alone 3 (gFits _ _ ?_)
  refine brc_intro (fun h => h0 (by simp at h; simp [phDo, h])) (fun hf => ?_)
  have hF : gFitB w n = true := by simpa using hf
  clear hf
  refine brc_intro (fun h => h0 (by simp at h; simp [phDo, h])) (fun h9 => ?_)
  have h9 : ¬ w = 9 := by simpa using h9
  refine brc_intro (fun ho => ?_) (fun ho => ?_)
  · have ho : o = true := ho
    subst ho
    exact h1 ⟨true, ph, pa, wa⟩ (-1) (by simp [phDo, Ph.right, hR, hF, h9])
  have ho : o = false := ho
  subst ho
  refine brc_intro (fun h6 => ?_) (fun h6 => ?_)
  · obtain rfl : w = 6 := by simpa using h6
    have hn : 1 ≤ n ∧ n ≤ 65535 := by simpa [gFitB] using hF
    refine brc_intro (fun h => ?_) (fun h => ?_)
    · have h := of_decide_eq_true h
      rw [wrap_i64 (pa + n) (by omega) (by omega)] at h
      exact h1 ⟨false, ph, pa, wa⟩ (-3) (by simp [phDo, Ph.right, hR, hF, h])
    · have h := of_decide_eq_false h
      rw [wrap_i64 (pa + n) (by omega) (by omega)] at h
      have hk := h1 ⟨false, ph, pa + n, wa + n⟩ ph (by simp [phDo, Ph.right, hR, hF, h])
      rw [← wrap_i64 (pa + n) (by omega) (by omega), ← wrap_i64 (wa + n) (by omega) (by omega)] at hk
      refine SS.drawR follows (by decide) ?_
      repeat (first | exact hk | refine And.intro rfl ?_)
  have h6 : ¬ w = 6 := by simpa using h6
  refine brc_intro (fun h10 => ?_) (fun h10 => ?_)
  · obtain rfl : w = 10 := by simpa using h10
    refine brc_intro (fun h => ?_) (fun h => ?_)
    · obtain rfl : ph = n := by simpa using h
      exact h1 ⟨false, ph, pa, wa⟩ (-4) (by simp [phDo, Ph.right, hR, hF])
    · have h : ¬ ph = n := by simpa using h
      exact h1 ⟨false, ph, pa, wa⟩ ph (by simp [phDo, Ph.right, hR, hF, h])
  have h10 : ¬ w = 10 := by simpa using h10
  refine brc_intro (fun h11 => ?_) (fun h11 => ?_)
  · obtain rfl : w = 11 := by simpa using h11
    exact h1 ⟨true, ph, pa, wa⟩ 0 (by simp [phDo, Ph.right, hR, hF])
  have h11 : ¬ w = 11 := by simpa using h11
  refine brc_intro (fun h => ?_) (fun hw0 => ?_)
  · obtain rfl : wa = 0 := by simpa using h
    exact h1 ⟨false, ph, pa, 0⟩ (-2) (by simp [phDo, Ph.right, hR, hF, h6, h9, h10, h11])
  have hw0 : ¬ wa = 0 := by simpa using hw0
  have e1 : IntKind.i64.wrap (wa - 1) = wa - 1 := wrap_i64 _ (by omega) (by omega)
  have e2 : IntKind.i64.wrap (pa - 1) = pa - 1 := wrap_i64 _ (by omega) (by omega)
  refine brc_intro (fun h8 => ?_) (fun h8 => ?_)
  · obtain rfl : w = 8 := by simpa using h8
    rw [e1]
    refine brc_intro (fun h => ?_) (fun hz => ?_)
    · have h : wa - 1 > 0 := of_decide_eq_true h
      have hk := h1 ⟨false, ph, pa - 1, wa - 1⟩ ph (by simp [phDo, Ph.right, hR, hF, hw0]; omega)
      rw [← e2] at hk
      exact hk
    have hz : ¬ wa - 1 > 0 := of_decide_eq_false hz
    refine brc_intro (fun h => ?_) (fun hp => ?_)
    · have h : pa - 1 = 0 := by rw [e2] at h; simpa using h
      have hk := h1 ⟨true, ph, pa - 1, wa - 1⟩ ph (by simp [phDo, Ph.right, hR, hF, hw0, h, show ¬ 1 < wa by omega])
      rw [← e2] at hk
      exact hk
    · have hp : ¬ pa - 1 = 0 := by rw [e2] at hp; simpa using hp
      change Does Tryd.prog 80 _ _ _
      rw [e2]
      refine Does.alone 3 (phNext ⟨false, ph, pa - 1, wa - 1⟩ ⟨hb.1, hb.2.1⟩ ?_)
      exact h1 ⟨false, (ph + 1) % 2147483648, pa - 1, pa - 1⟩ ph (by simp [phDo, Ph.right, hR, hF, hw0, hp, show ¬ 1 < wa by omega])
  · have h8 : ¬ w = 8 := by simpa using h8
    rw [e1]
    refine brc_intro (fun h => ?_) (fun hz => ?_)
    · have h : wa - 1 > 0 := of_decide_eq_true h
      exact h1 ⟨false, ph, pa, wa - 1⟩ ph (by simp [phDo, Ph.right, hR, hF, h6, h9, h10, h11, h8, hw0]; omega)
    have hz : ¬ wa - 1 > 0 := of_decide_eq_false hz
    refine brc_intro (fun h => ?_) (fun hp => ?_)
    · have h : pa = 0 := by simpa using h
      omega
    · have hp : ¬ pa = 0 := by simpa using hp
      change Does Tryd.prog 80 _ _ _
      refine Does.alone 3 (phNext ⟨false, ph, pa, wa - 1⟩ ⟨hb.1, hb.2.1⟩ ?_)
      exact h1 ⟨false, (ph + 1) % 2147483648, pa, pa⟩ ph (by simp [phDo, Ph.right, hR, hF, h6, h9, h10, h11, h8, hw0, hp, show ¬ 1 < wa by omega])

theorem plainPhaseG : plainT Tryd.prog 60 = true := by decide +kernel

theorem phaserSome {p : Ph} {w n : Int} (r : Ph) (a : Int) (h : phDo p w n = some (r, a)) (hK : K (.tup [r.c, .c (.f (.int .i64 a)), pkOkC]) [] []) : Does Tryd.prog 39 [.p p.c, .p (callG w n)] [] K :=
  phaserDo p w n (fun h' => by rw [h] at h'; cases h') fun r' a' h' => by
    rw [h] at h'
    cases h'
    exact hK

theorem phased (hK : K (bl true) [] []) : Does Tryd.prog 33 [] [] K := by
  refine does Tryd.func33 rfl (by decide) ?_
  change Does Tryd.prog 39 _ _ _
  refine Does.alone 1 (phaserSome (p := ⟨false, 0, 2, 2⟩) (w := 7) (n := 0) ⟨false, 0, 2, 1⟩ 0 rfl ?_)
  change Does Tryd.prog 39 _ _ _
  refine Does.alone 1 (phaserSome (p := ⟨false, 0, 2, 1⟩) (w := 7) (n := 0) ⟨false, 1, 2, 2⟩ 0 rfl ?_)
  change Does Tryd.prog 39 _ _ _
  refine Does.alone 1 (phaserSome (p := ⟨false, 1, 2, 2⟩) (w := 10) (n := 1) ⟨false, 1, 2, 2⟩ (-4) rfl ?_)
  refine And.intro plainPhaseG ?_
  exact hK

end
end Go.Mac
