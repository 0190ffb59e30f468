/- What the functions of packed do, and packs. -/
import Derived.Test.YtlimhldkkbaohaaProg
import Derived.Test.YtlimhldkkbaohaaGBase
open Go Go.Proofs Go.Mac
set_option maxRecDepth 100000
namespace Go.Mac

def rightB (ph pa wa : Int) : Bool := decide (0 ≤ ph ∧ ph < 2147483648 ∧ 0 ≤ pa ∧ pa ≤ 65535 ∧ 0 ≤ wa ∧ wa ≤ pa)
abbrev phaseC (o : Bool) (ph pa wa : Int) : PV := .agg [.f (.bool o), .f (.int .i64 ph), .f (.int .i64 pa), .f (.int .i64 wa)]
abbrev phase (o : Bool) (ph pa wa : Int) : AV := .p (phaseC o ph pa wa)
/-- An error. -/
abbrev errC (n : Int) : PV := .c (.iface 49 (.f (.int .i64 n)))
abbrev okC : PV := .c .niliface
def wordZ (o : Bool) (ph pa wa : Int) : Int := wa + pa * 65536 + ph * 4294967296 + if o then 9223372036854775808 else 0

theorem rightB_iff {ph pa wa : Int} : rightB ph pa wa = true ↔ 0 ≤ ph ∧ ph < 2147483648 ∧ 0 ≤ pa ∧ pa ≤ 65535 ∧ 0 ≤ wa ∧ wa ≤ pa := by simp [rightB]

variable {K : AV → List Nat → List PO → Prop}

theorem right (o : Bool) (ph pa wa : Int) (hK : K (bl (rightB ph pa wa)) [] []) : Does Try.prog 14 [phase o ph pa wa] [] K := by
  refine does Try.func14 rfl (by decide) ?_
  iterate 5 (refine brc_intro (fun _ => ?_) (fun _ => eqb (K := fun b => K (bl b) [] []) hK (by simp_all [rightB]; try omega)))
  exact eqb (K := fun b => K (bl b) [] []) hK (by simp_all [rightB])

theorem wordEq (ph pa wa : Int) (h : 0 ≤ ph ∧ ph < 2147483648 ∧ 0 ≤ pa ∧ pa ≤ 65535 ∧ 0 ≤ wa ∧ wa ≤ pa) : IntKind.u64.wrap
                ↑(BitVec.ofInt IntKind.u64.bits
                        (IntKind.u64.wrap
                          ↑(BitVec.ofInt IntKind.u64.bits (IntKind.u64.wrap wa) |||
                                BitVec.ofInt IntKind.u64.bits
                                  (IntKind.u64.wrap
                                    (IntKind.u64.wrap pa * 2 ^ min (Int.toNat 16) IntKind.u64.bits))).toNat) |||
                      BitVec.ofInt IntKind.u64.bits
                        (IntKind.u64.wrap (IntKind.u64.wrap ph * 2 ^ min (Int.toNat 32) IntKind.u64.bits))).toNat = wordZ false ph pa wa := by
  have e1 : min (Int.toNat 16) IntKind.u64.bits = 16 := rfl
  have e2 : min (Int.toNat 32) IntKind.u64.bits = 32 := rfl
  rw [e1, e2, wrap_u64 wa (by omega) (by omega), wrap_u64 pa (by omega) (by omega), wrap_u64 ph (by omega) (by omega), wrap_u64 (pa * 2 ^ 16) (by omega) (by omega), wrap_u64 (ph * 2 ^ 32) (by omega) (by omega)]
  have e3 : IntKind.u64.bits = 64 := rfl
  rw [e3, or_z 16 wa pa (by omega) (by omega) (by omega) (by omega) (by omega), wrap_u64 (wa + pa * 2 ^ 16) (by omega) (by omega), or_z 32 _ ph (by omega) (by omega) (by omega) (by omega) (by omega), wrap_u64 _ (by omega) (by omega)]
  simp [wordZ]

theorem wordEq2 (ph pa wa : Int) (h : 0 ≤ ph ∧ ph < 2147483648 ∧ 0 ≤ pa ∧ pa ≤ 65535 ∧ 0 ≤ wa ∧ wa ≤ pa) : IntKind.u64.wrap ↑(BitVec.ofInt IntKind.u64.bits (wordZ false ph pa wa) ||| BitVec.ofInt IntKind.u64.bits 9223372036854775808).toNat = wordZ true ph pa wa := by
  have e3 : IntKind.u64.bits = 64 := rfl
  have e4 : (9223372036854775808 : Int) = 1 * 2 ^ 63 := by omega
  have h3 : wordZ false ph pa wa = wa + pa * 65536 + ph * 4294967296 := by simp [wordZ]
  rw [h3, e3, e4, or_z 63 _ 1 (by omega) (by omega) (by omega) (by omega) (by omega), wrap_u64 _ (by omega) (by omega)]
  simp [wordZ]

/-- The parts of a word. -/
def ofO (w : Int) : Bool := decide (9223372036854775808 ≤ w)
def ofPh (w : Int) : Int := w / 4294967296 % 2147483648
def ofPa (w : Int) : Int := w / 65536 % 65536
def ofWa (w : Int) : Int := w % 65536

theorem ofPhEq (w : Int) (hw : 0 ≤ w ∧ w < 18446744073709551616) : IntKind.i64.wrap (IntKind.u64.wrap ↑(BitVec.ofInt IntKind.u64.bits (w.fdiv (2 ^ min (Int.toNat 32) IntKind.u64.bits)) &&& BitVec.ofInt IntKind.u64.bits 2147483647).toNat) = ofPh w := by
  have e1 : (2 : Int) ^ min (Int.toNat 32) IntKind.u64.bits = 4294967296 := rfl
  have e3 : IntKind.u64.bits = 64 := rfl
  have e4 : w.fdiv 4294967296 = w / 4294967296 := Int.fdiv_eq_ediv_of_nonneg _ (by omega)
  rw [e1, e3, e4, and_z 31 _ 2147483647 (by omega) (by omega) (by omega) (by omega), wrap_u64 _ (by omega) (by omega), wrap_i64 _ (by omega) (by omega)]
  rfl

theorem ofPaEq (w : Int) (hw : 0 ≤ w ∧ w < 18446744073709551616) : IntKind.i64.wrap (IntKind.u64.wrap ↑(BitVec.ofInt IntKind.u64.bits (w.fdiv (2 ^ min (Int.toNat 16) IntKind.u64.bits)) &&& BitVec.ofInt IntKind.u64.bits 65535).toNat) = ofPa w := by
  have e1 : (2 : Int) ^ min (Int.toNat 16) IntKind.u64.bits = 65536 := rfl
  have e3 : IntKind.u64.bits = 64 := rfl
  have e4 : w.fdiv 65536 = w / 65536 := Int.fdiv_eq_ediv_of_nonneg _ (by omega)
  rw [e1, e3, e4, and_z 16 _ 65535 (by omega) (by omega) (by omega) (by omega), wrap_u64 _ (by omega) (by omega), wrap_i64 _ (by omega) (by omega)]
  rfl

theorem ofWaEq (w : Int) (hw : 0 ≤ w ∧ w < 18446744073709551616) : IntKind.i64.wrap (IntKind.u64.wrap ↑(BitVec.ofInt IntKind.u64.bits w &&& BitVec.ofInt IntKind.u64.bits 65535).toNat) = ofWa w := by
  have e3 : IntKind.u64.bits = 64 := rfl
  rw [e3, and_z 16 _ 65535 (by omega) (by omega) (by omega) (by omega), wrap_u64 _ (by omega) (by omega), wrap_i64 _ (by omega) (by omega)]
  rfl

theorem ofOEq (w : Int) (hw : 0 ≤ w ∧ w < 18446744073709551616) : (w.fdiv (2 ^ min (Int.toNat 63) IntKind.u64.bits) == 1) = ofO w := by
  have e1 : (2 : Int) ^ min (Int.toNat 63) IntKind.u64.bits = 9223372036854775808 := rfl
  have e4 : w.fdiv 9223372036854775808 = w / 9223372036854775808 := Int.fdiv_eq_ediv_of_nonneg _ (by omega)
  rw [e1, e4, Bool.eq_iff_iff]
  simp only [ofO, decide_eq_true_eq, beq_iff_eq]
  omega

theorem plainPhase : plainT Try.prog 23 = true := by decide +kernel

end Go.Mac
