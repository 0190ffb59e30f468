/- strings.Index, and strings.Count, of one byte: walked raw, and as calls that do so. -/
import Derived.Test.YtlimhldkkbaohaaGreatDoorGBase
import Derived.Lib.Strings
import Derived.Lib.Slices
import Derived.Lib.Walk
import Derived.Lib.Bytealg
open Go Go.Proofs Go.Mac

namespace Go.Mac.StrsKit

set_option maxHeartbeats 1000000 in
set_option maxRecDepth 100000 in
theorem indexByte (s : ByteArray) (c : Int) (w : World) :
    Calls Tryz.prog 110 #[.string s, .int .u8 c] w fun e w' => e = .returned (.int .i64 (Lib.indexByte s.data.toList c.toNat.toUInt8)) ∧ w' = w := by
  go_enter Tryz.func110, Tryz.ntmps110
  go_wp2
  rw [run_callFunc_extern Tryz.func133 (by kernel_rfl) (by kernel_rfl) (by kernel_rfl) (e := Extern.BytealgIndexByte.indexByte) (by kernel_rfl), Lib.run_indexByteString]
  simp only [Result.andThen]
  rw [Oper.upon_value]
  go_wp2
  go_ret
  exact ⟨rfl, rfl⟩

set_option maxHeartbeats 2000000 in
set_option maxRecDepth 100000 in
theorem index (s : ByteArray) (c : UInt8) (w : World) :
    Calls Tryz.prog 93 #[.string s, .string ⟨#[c]⟩] w fun e w' => e = .returned (.int .i64 (Lib.indexByte s.data.toList c)) ∧ w' = w := by
  go_enter Tryz.func93, Tryz.ntmps93
  go_wp2_with (go_at_call 110; refine (indexByte _ _ _).mono ?_; rintro e w' ⟨rfl, rfl⟩)
  · have h : ([c] == s.toList) = true := by assumption
    go_ret
    refine ⟨?_, rfl⟩
    have e : s.data.toList = [c] := by rw [← Lib.toList_data]; exact (beq_iff_eq.1 h).symm
    rw [e]
    simp [Lib.indexByte]
  · go_ret
    exact ⟨rfl, rfl⟩

set_option maxHeartbeats 1000000 in
set_option maxRecDepth 100000 in
theorem count (s : ByteArray) (c : UInt8) (w : World) :
    Calls Tryz.prog 115 #[.string s, .string ⟨#[c]⟩] w fun e w' => e = .returned (.int .i64 (Lib.countByte s.data.toList c)) ∧ w' = w := by
  go_enter Tryz.func115, Tryz.ntmps115
  go_wp2
  rw [run_callFunc_extern Tryz.func137 (by kernel_rfl) (by kernel_rfl) (by kernel_rfl) (e := Extern.BytealgCount.count) (by kernel_rfl), Lib.run_countString]
  simp only [Result.andThen]
  rw [Oper.upon_value]
  go_wp2
  go_ret
  exact ⟨rfl, rfl⟩

end Go.Mac.StrsKit

set_option maxRecDepth 100000
namespace Go.Mac

section
variable {K : AV → List Nat → List PO → Prop}

theorem strIndex (s : List UInt8) (c : UInt8) (h : K (i64 (Lib.indexByte s c)) [] []) : Does Tryz.prog 93 [st s, st [c]] [] K := by
  refine ⟨⟨_, Tryz.func93, by decide, rfl⟩, fun B R w0 L w vs hrel hvs => ?_⟩
  obtain ⟨_, _, rfl, rfl, _, _, rfl, rfl, rfl⟩ := hvs
  refine (StrsKit.index ⟨s.toArray⟩ c w).mono ?_
  rintro e w' ⟨rfl, rfl⟩
  exact ⟨_, rfl, L, i64 _, [], [], Agree.refl _ _ _, Nat.le_refl 0, rfl, hrel, h⟩

theorem strCount (s : List UInt8) (c : UInt8) (h : K (i64 (Lib.countByte s c)) [] []) : Does Tryz.prog 115 [st s, st [c]] [] K := by
  refine ⟨⟨_, Tryz.func115, by decide, rfl⟩, fun B R w0 L w vs hrel hvs => ?_⟩
  obtain ⟨_, _, rfl, rfl, _, _, rfl, rfl, rfl⟩ := hvs
  refine (StrsKit.count ⟨s.toArray⟩ c w).mono ?_
  rintro e w' ⟨rfl, rfl⟩
  exact ⟨_, rfl, L, i64 _, [], [], Agree.refl _ _ _, Nat.le_refl 0, rfl, hrel, h⟩

end
end Go.Mac
