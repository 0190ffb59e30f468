/- What the functions of packed do, and packs. -/
import Derived.Test.YtlimhldkkbaohaaDoorProg
import Derived.Test.YtlimhldkkbaohaaDoorGBase
open Go Go.Proofs Go.Mac
set_option maxRecDepth 100000
namespace Go.Mac

def pkRightB (ph pa wa : Int) : Bool := decide (0 ≤ ph ∧ ph < 2147483648 ∧ 0 ≤ pa ∧ pa ≤ 65535 ∧ 0 ≤ wa ∧ wa ≤ pa)
abbrev pkPhaseC (o : Bool) (ph pa wa : Int) : PV := .agg [.f (.bool o), .f (.int .i64 ph), .f (.int .i64 pa), .f (.int .i64 wa)]
abbrev pkPhase (o : Bool) (ph pa wa : Int) : AV := .p (pkPhaseC o ph pa wa)
/-- An error. -/
abbrev pkErrC (n : Int) : PV := .c (.iface 115 (.f (.int .i64 n)))
abbrev pkOkC : PV := .c .niliface
def pkWordZ (o : Bool) (ph pa wa : Int) : Int := wa + pa * 65536 + ph * 4294967296 + if o then 9223372036854775808 else 0

theorem pkRightB_iff {ph pa wa : Int} : pkRightB ph pa wa = true ↔ 0 ≤ ph ∧ ph < 2147483648 ∧ 0 ≤ pa ∧ pa ≤ 65535 ∧ 0 ≤ wa ∧ wa ≤ pa := by simp [pkRightB]

variable {K : AV → List Nat → List PO → Prop}

theorem pkRight (o : Bool) (ph pa wa : Int) (hK : K (bl (pkRightB ph pa wa)) [] []) : Does Tryd.prog 79 [pkPhase o ph pa wa] [] K := by
  refine does Tryd.func79 rfl (by decide) ?_
  iterate 5 (refine brc_intro (fun _ => ?_) (fun _ => eqb (K := fun b => K (bl b) [] []) hK (by simp_all [pkRightB]; try omega)))
  exact eqb (K := fun b => K (bl b) [] []) hK (by simp_all [pkRightB])

theorem pkWordEq (ph pa wa : Int) (h : 0 ≤ ph ∧ ph < 2147483648 ∧ 0 ≤ pa ∧ pa ≤ 65535 ∧ 0 ≤ wa ∧ wa ≤ pa) : IntKind.u64.wrap
                ↑(BitVec.ofInt IntKind.u64.bits
                        (IntKind.u64.wrap
                          ↑(BitVec.ofInt IntKind.u64.bits (IntKind.u64.wrap wa) |||
                                BitVec.ofInt IntKind.u64.bits
                                  (IntKind.u64.wrap
                                    (IntKind.u64.wrap pa * 2 ^ min (Int.toNat 16) IntKind.u64.bits))).toNat) |||
                      BitVec.ofInt IntKind.u64.bits
                        (IntKind.u64.wrap (IntKind.u64.wrap ph * 2 ^ min (Int.toNat 32) IntKind.u64.bits))).toNat = pkWordZ false ph pa wa := by
  have e1 : min (Int.toNat 16) IntKind.u64.bits = 16 := rfl
  have e2 : min (Int.toNat 32) IntKind.u64.bits = 32 := rfl
  rw [e1, e2, wrap_u64 wa (by omega) (by omega), wrap_u64 pa (by omega) (by omega), wrap_u64 ph (by omega) (by omega), wrap_u64 (pa * 2 ^ 16) (by omega) (by omega), wrap_u64 (ph * 2 ^ 32) (by omega) (by omega)]
  have e3 : IntKind.u64.bits = 64 := rfl
  rw [e3, or_z 16 wa pa (by omega) (by omega) (by omega) (by omega) (by omega), wrap_u64 (wa + pa * 2 ^ 16) (by omega) (by omega), or_z 32 _ ph (by omega) (by omega) (by omega) (by omega) (by omega), wrap_u64 _ (by omega) (by omega)]
  simp [pkWordZ]

theorem pkWordEq2 (ph pa wa : Int) (h : 0 ≤ ph ∧ ph < 2147483648 ∧ 0 ≤ pa ∧ pa ≤ 65535 ∧ 0 ≤ wa ∧ wa ≤ pa) : IntKind.u64.wrap ↑(BitVec.ofInt IntKind.u64.bits (pkWordZ false ph pa wa) ||| BitVec.ofInt IntKind.u64.bits 9223372036854775808).toNat = pkWordZ true ph pa wa := by
  have e3 : IntKind.u64.bits = 64 := rfl
  have e4 : (9223372036854775808 : Int) = 1 * 2 ^ 63 := by omega
  have h3 : pkWordZ false ph pa wa = wa + pa * 65536 + ph * 4294967296 := by simp [pkWordZ]
  rw [h3, e3, e4, or_z 63 _ 1 (by omega) (by omega) (by omega) (by omega) (by omega), wrap_u64 _ (by omega) (by omega)]
  simp [pkWordZ]

theorem pkWord (o : Bool) (ph pa wa : Int) (h0 : pkRightB ph pa wa = false → K (.tup [.c (.f (.int .u64 0)), pkErrC 1]) [] [])
    (h1 : pkRightB ph pa wa = true → K (.tup [.c (.f (.int .u64 (pkWordZ o ph pa wa))), pkOkC]) [] []) : Does Tryd.prog 45 [pkPhase o ph pa wa] [] K := by
  refine does Tryd.func45 rfl (by decide) ?_
  change Does Tryd.prog 79 _ _ _
  refine Does.alone 1 (pkRight o ph pa wa ?_)
  refine brc_intro (fun h => ?_) (fun h => ?_)
  · exact h0 (by simpa using h)
  · have h : pkRightB ph pa wa = true := by simpa using h
    replace h1 := h1 h
    simp only [pkRightB, decide_eq_true_eq] at h
    refine brc_intro (fun ho => ?_) (fun ho => ?_)
    · subst ho
      refine eqz (K := fun z => K (.tup [.c (.f (.int .u64 z)), .c .niliface]) [] []) h1 ?_
      rw [pkWordEq ph pa wa h, pkWordEq2 ph pa wa h]
    · subst ho
      refine eqz (K := fun z => K (.tup [.c (.f (.int .u64 z)), .c .niliface]) [] []) h1 ?_
      rw [pkWordEq ph pa wa h]

