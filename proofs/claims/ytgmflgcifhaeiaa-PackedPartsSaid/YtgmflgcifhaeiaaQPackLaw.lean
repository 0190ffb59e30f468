/- PackedBack, PackedOrder, PackedParts: true. -/
import Derived.Test.YtgmflgcifhaeiaaQPack
open Go Go.Proofs Go.Mac
set_option maxRecDepth 100000
namespace Go.Mac

theorem fin {b : Bool} (h : b = true) : (bl b : AV) = bl true := congrArg bl h

theorem of_word (o : Bool) (ph pa wa : Int) (h : rightB ph pa wa = true) : 0 ≤ wordZ o ph pa wa ∧ wordZ o ph pa wa < 18446744073709551616 ∧ ofO (wordZ o ph pa wa) = o ∧ ofPh (wordZ o ph pa wa) = ph ∧ ofPa (wordZ o ph pa wa) = pa ∧ ofWa (wordZ o ph pa wa) = wa := by
  rw [rightB_iff] at h
  simp only [ofO, ofPh, ofPa, ofWa, wordZ]
  cases o <;> simp <;> omega

theorem word_of (w : Int) (hw : 0 ≤ w ∧ w < 18446744073709551616) : wordZ (ofO w) (ofPh w) (ofPa w) (ofWa w) = w := by
  simp only [ofO, ofPh, ofPa, ofWa, wordZ]
  by_cases h : 9223372036854775808 ≤ w <;> simp [h] <;> omega

theorem not_of (w : Int) (_hw : 0 ≤ w ∧ w < 18446744073709551616) (h : rightB (ofPh w) (ofPa w) (ofWa w) = false) : ofPa w < ofWa w := by
  have h := of_decide_eq_false h
  simp only [ofPh, ofPa, ofWa] at h ⊢
  omega

theorem uPaEq (w : Int) (hw : 0 ≤ w ∧ w < 18446744073709551616) : IntKind.u64.wrap ↑(BitVec.ofInt IntKind.u64.bits (w.fdiv (2 ^ min (Int.toNat 16) IntKind.u64.bits)) &&& BitVec.ofInt IntKind.u64.bits 65535).toNat = ofPa w := by
  have e1 : (2 : Int) ^ min (Int.toNat 16) IntKind.u64.bits = 65536 := rfl
  have e3 : IntKind.u64.bits = 64 := rfl
  have e4 : w.fdiv 65536 = w / 65536 := Int.fdiv_eq_ediv_of_nonneg _ (by omega)
  rw [e1, e3, e4, and_z 16 _ 65535 (by omega) (by omega) (by omega) (by omega), wrap_u64 _ (by omega) (by omega)]
  rfl

theorem uWaEq (w : Int) (hw : 0 ≤ w ∧ w < 18446744073709551616) : IntKind.u64.wrap ↑(BitVec.ofInt IntKind.u64.bits w &&& BitVec.ofInt IntKind.u64.bits 65535).toNat = ofWa w := by
  have e3 : IntKind.u64.bits = 64 := rfl
  rw [e3, and_z 16 _ 65535 (by omega) (by omega) (by omega) (by omega), wrap_u64 _ (by omega) (by omega)]
  rfl

theorem packedBack (o : Bool) (ph pa wa w : Int) (hw : 0 ≤ w ∧ w < 18446744073709551616) : Does Try.prog 3 [phase o ph pa wa, u64 w] [] fun v _ _ => v = bl true := by
  refine does Try.func3 rfl (by decide) ?_
  change Does Try.prog 15 _ _ _
  refine Does.alone 1 (packs ?_)
  change Does Try.prog 16 _ _ _
  refine Does.alone 1 (right _ _ _ _ ?_)
  refine brc_intro (fun hr => ?_) (fun hr => ?_)
  · obtain ⟨g1, g2, g3, g4, g5, g6⟩ := of_word o ph pa wa hr
    change Does Try.prog 17 _ _ _
    refine Does.alone 1 (word _ _ _ _ (fun h => absurd (hr.symm.trans h) (by decide)) fun _ => ?_)
    change Does Try.prog 18 _ _ _
    refine Does.alone 1 (ofIs _ ⟨g1, g2⟩ (fun h => ?_) fun _ => ?_)
    · rw [g4, g5, g6, hr] at h; cases h
    rw [g3, g4, g5, g6]
    refine And.intro plainPhase ?_
    refine brc_intro (fun h => ?_) (fun h => ?_)
    · simp at h
    change Does Try.prog 18 _ _ _
    refine Does.alone 2 (ofIs w hw (fun h => ?_) fun h => ?_)
    · refine And.intro plainPhase ?_
      have e := not_of w hw h
      refine fin ?_
      rw [uPaEq w hw, uWaEq w hw]
      exact decide_eq_true e
    · change Does Try.prog 17 _ _ _
      refine Does.alone 3 (word _ _ _ _ (fun h' => absurd (h.symm.trans h') (by decide)) fun _ => ?_)
      rw [word_of w hw]
      exact fin (beq_self_eq_true w)
  · change Does Try.prog 17 _ _ _
    refine Does.alone 1 (word _ _ _ _ (fun _ => ?_) fun h' => absurd (hr.symm.trans h') (by decide))
    change Does Try.prog 18 _ _ _
    refine Does.alone 1 (ofIs w hw (fun h => ?_) fun h => ?_)
    · refine And.intro plainPhase ?_
      have e := not_of w hw h
      refine fin ?_
      rw [uPaEq w hw, uWaEq w hw]
      exact decide_eq_true e
    · change Does Try.prog 17 _ _ _
      refine Does.alone 2 (word _ _ _ _ (fun h' => absurd (h.symm.trans h') (by decide)) fun _ => ?_)
      rw [word_of w hw]
      exact fin (beq_self_eq_true w)

theorem packedOrder (o : Bool) (ph pa wa : Int) (o' : Bool) (ph' pa' wa' : Int) : Does Try.prog 4 [phase o ph pa wa, phase o' ph' pa' wa'] [] fun v _ _ => v = bl true := by
  refine does Try.func4 rfl (by decide) ?_
  change Does Try.prog 15 _ _ _
  refine Does.alone 2 (packs ?_)
  change Does Try.prog 17 _ _ _
  refine Does.alone 2 (word _ _ _ _ (fun h1 => ?_) fun h1 => ?_)
  · change Does Try.prog 17 _ _ _
    refine Does.alone 2 (word _ _ _ _ (fun h2 => ?_) fun h2 => ?_)
    · exact fin rfl
    · exact fin rfl
  · change Does Try.prog 17 _ _ _
    refine Does.alone 2 (word _ _ _ _ (fun h2 => ?_) fun h2 => ?_)
    · exact fin rfl
    · rw [rightB_iff] at h1 h2
      refine SS.inlR ?_
      refine brc_intro (fun h => ?_) (fun h => ?_)
      · refine fin ?_
        simp only [wordZ]
        cases o <;> cases o' <;> simp at h ⊢ <;> omega
      · have h : o = o' := by simpa using h
        subst h
        refine brc_intro (fun h => ?_) (fun h => ?_)
        · refine fin ?_
          have h : ph ≠ ph' := by simpa using h
          rw [beq_iff_eq, Bool.eq_iff_iff, decide_eq_true_iff, decide_eq_true_iff]
          simp only [wordZ]
          generalize (if o = true then (9223372036854775808 : Int) else 0) = z
          constructor <;> intro _ <;> omega
        · have h : ph = ph' := by simpa using h
          subst h
          refine And.intro plainPhase ?_
          refine fin ?_
          rw [beq_iff_eq, Bool.eq_iff_iff]
          simp only [wordZ, beq_self_eq_true, Bool.true_and, Bool.and_true, beq_iff_eq, Bool.and_eq_true]
          omega

theorem packedParts (o : Bool) (ph pa wa : Int) : Does Try.prog 5 [phase o ph pa wa] [] fun v _ _ => v = bl true := by
  refine does Try.func5 rfl (by decide) ?_
  change Does Try.prog 15 _ _ _
  refine Does.alone 1 (packs ?_)
  change Does Try.prog 16 _ _ _
  refine Does.alone 4 (right _ _ _ _ ?_)
  refine brc_intro (fun a1 => ?_) (fun a1 => ?_)
  · exact fin rfl
  have a1 : rightB ph pa wa = true := by simpa using a1
  have b1 := rightB_iff.1 a1
  change Does Try.prog 16 _ _ _
  refine Does.alone 4 (right _ _ _ _ ?_)
  rw [wrap_i64 (pa + 1) (by omega) (by omega), wrap_i64 (wa + 1) (by omega) (by omega), wrap_i64 (ph + 1) (by omega) (by omega)]
  refine brc_intro (fun a2 => ?_) (fun a2 => ?_)
  · exact fin rfl
  have a2 : rightB ph (pa + 1) (wa + 1) = true := by simpa using a2
  have b2 := rightB_iff.1 a2
  change Does Try.prog 16 _ _ _
  refine Does.alone 4 (right _ _ _ _ ?_)
  refine brc_intro (fun a3 => ?_) (fun a3 => ?_)
  · exact fin rfl
  have a3 : rightB (ph + 1) pa wa = true := by simpa using a3
  have b3 := rightB_iff.1 a3
  have a4 : rightB ph (pa + 1) wa = true := rightB_iff.2 (by omega)
  change Does Try.prog 17 _ _ _
  refine Does.alone 4 (word _ _ _ _ (fun h => absurd (a1.symm.trans h) (by decide)) fun _ => ?_)
  change Does Try.prog 17 _ _ _
  refine Does.alone 4 (word _ _ _ _ (fun h => absurd (a4.symm.trans h) (by decide)) fun _ => ?_)
  change Does Try.prog 17 _ _ _
  refine Does.alone 4 (word _ _ _ _ (fun h => absurd (a2.symm.trans h) (by decide)) fun _ => ?_)
  change Does Try.prog 17 _ _ _
  refine Does.alone 4 (word _ _ _ _ (fun h => absurd (a3.symm.trans h) (by decide)) fun _ => ?_)
  have hz : ∀ o : Bool, (0 : Int) ≤ (if o = true then (9223372036854775808 : Int) else 0) ∧ (if o = true then (9223372036854775808 : Int) else 0) ≤ 9223372036854775808 := by intro o; cases o <;> simp
  have hz := hz o
  have e1 : IntKind.u64.wrap (wordZ o ph pa wa + 65536) = wordZ o ph (pa + 1) wa := by
    simp only [wordZ]
    rw [wrap_u64 _ (by omega) (by omega)]
    omega
  have e2 : IntKind.u64.wrap (wordZ o ph (pa + 1) wa + 1) = wordZ o ph (pa + 1) (wa + 1) := by
    simp only [wordZ]
    rw [wrap_u64 _ (by omega) (by omega)]
    omega
  have e3 : IntKind.u64.wrap (wordZ o ph pa wa + 4294967296) = wordZ o (ph + 1) pa wa := by
    simp only [wordZ]
    rw [wrap_u64 _ (by omega) (by omega)]
    omega
  refine brc_intro (fun h => ?_) (fun h => absurd h (by rw [e1]; simp))
  refine brc_intro (fun h => ?_) (fun h => absurd h (by rw [e2]; simp))
  refine fin ?_
  rw [e3]
  simp

end Go.Mac
