/- The text that the laws ask for first: it reads as its program. -/
import Derived.Test.YtlimhldkkbaohaaDoorQParse
import Derived.Test.YtlimhldkkbaohaaDoorQEqIns
import Derived.Test.YtlimhldkkbaohaaDoorGForm
open Go Go.Proofs Go.Mac
set_option maxRecDepth 100000
namespace Go.Mac

theorem itoa_0 : Lib.itoa 0 = [48] := by simp [Lib.itoa, Lib.decDigits]
theorem itoa_1 : Lib.itoa 1 = [49] := by simp [Lib.itoa, Lib.decDigits]
theorem itoa_m1 : Lib.itoa (-1) = [45, 49] := by simp [Lib.itoa, Lib.decDigits]
theorem itoa_m5 : Lib.itoa (-5) = [45, 53] := by simp [Lib.itoa, Lib.decDigits]

abbrev ln0 : List UInt8 := [108, 101, 116, 32, 48, 32, 45, 53]
abbrev ps0 : List (List UInt8) := [[108, 101, 116], [48], [45, 53]]
abbrev rt0 : List (List UInt8) := [[108, 101, 116, 32, 48, 32, 45, 53], [48, 32, 45, 53], [45, 53]]

theorem parts0 : PartsS 32 2 ps0 rt0 := by
  refine ⟨rfl, fun i hi => ?_, rfl⟩
  rcases (show i = 0 ∨ i = 1 by omega) with rfl | rfl
  all_goals exact ⟨_, _, _, rfl, rfl, rfl, by decide, by decide, by decide, by decide, by decide⟩

theorem line0 : LineZ ln0 2 ps0 rt0 1 [0, -5, 0, 0] [1, 2, 3, 3, 3] := by
  refine ⟨parts0, by decide, by decide, by decide, rfl, by decide, rfl, by decide, rfl, rfl, rfl, fun i hi => ?_⟩
  rcases (show i = 0 ∨ i = 1 ∨ i = 2 ∨ i = 3 by omega) with rfl | rfl | rfl | rfl
  · exact .inr ⟨by decide, by decide, rfl, _, rfl, by decide, by decide, itoa_0, by decide, by decide⟩
  · exact .inr ⟨by decide, by decide, rfl, _, rfl, by decide, by decide, itoa_m5, by decide, by decide⟩
  · exact .inl ⟨rfl, rfl, rfl⟩
  · exact .inl ⟨rfl, rfl, rfl⟩

abbrev ln1 : List UInt8 := [115, 116, 111, 114, 101, 32, 49, 32, 48, 32, 45, 49]
abbrev ps1 : List (List UInt8) := [[115, 116, 111, 114, 101], [49], [48], [45, 49]]
abbrev rt1 : List (List UInt8) := [[115, 116, 111, 114, 101, 32, 49, 32, 48, 32, 45, 49], [49, 32, 48, 32, 45, 49], [48, 32, 45, 49], [45, 49]]

theorem parts1 : PartsS 32 3 ps1 rt1 := by
  refine ⟨rfl, fun i hi => ?_, rfl⟩
  rcases (show i = 0 ∨ i = 1 ∨ i = 2 by omega) with rfl | rfl | rfl
  all_goals exact ⟨_, _, _, rfl, rfl, rfl, by decide, by decide, by decide, by decide, by decide⟩

theorem line1 : LineZ ln1 3 ps1 rt1 7 [1, 0, -1, 0] [1, 2, 3, 4, 4] := by
  refine ⟨parts1, by decide, by decide, by decide, rfl, by decide, rfl, by decide, rfl, rfl, rfl, fun i hi => ?_⟩
  rcases (show i = 0 ∨ i = 1 ∨ i = 2 ∨ i = 3 by omega) with rfl | rfl | rfl | rfl
  · exact .inr ⟨by decide, by decide, rfl, _, rfl, by decide, by decide, itoa_1, by decide, by decide⟩
  · exact .inr ⟨by decide, by decide, rfl, _, rfl, by decide, by decide, itoa_0, by decide, by decide⟩
  · exact .inr ⟨by decide, by decide, rfl, _, rfl, by decide, by decide, itoa_m1, by decide, by decide⟩
  · exact .inl ⟨rfl, rfl, rfl⟩

abbrev ln2 : List UInt8 := [104, 97, 108, 116]
abbrev ps2 : List (List UInt8) := [[104, 97, 108, 116]]
abbrev rt2 : List (List UInt8) := [[104, 97, 108, 116]]

theorem parts2 : PartsS 32 0 ps2 rt2 := by
  refine ⟨rfl, fun i hi => ?_, rfl⟩
  omega

theorem line2 : LineZ ln2 0 ps2 rt2 0 [0, 0, 0, 0] [1, 1, 1, 1, 1] := by
  refine ⟨parts2, by decide, by decide, by decide, rfl, by decide, rfl, by decide, rfl, rfl, rfl, fun i hi => ?_⟩
  rcases (show i = 0 ∨ i = 1 ∨ i = 2 ∨ i = 3 by omega) with rfl | rfl | rfl | rfl
  · exact .inl ⟨rfl, rfl, rfl⟩
  · exact .inl ⟨rfl, rfl, rfl⟩
  · exact .inl ⟨rfl, rfl, rfl⟩
  · exact .inl ⟨rfl, rfl, rfl⟩

abbrev txtW : List UInt8 := [108, 101, 116, 32, 48, 32, 45, 53, 10, 115, 116, 111, 114, 101, 32, 49, 32, 48, 32, 45, 49, 10, 104, 97, 108, 116, 10]
abbrev rtW : List (List UInt8) := [[108, 101, 116, 32, 48, 32, 45, 53, 10, 115, 116, 111, 114, 101, 32, 49, 32, 48, 32, 45, 49, 10, 104, 97, 108, 116, 10], [115, 116, 111, 114, 101, 32, 49, 32, 48, 32, 45, 49, 10, 104, 97, 108, 116, 10], [104, 97, 108, 116, 10], []]
abbrev prW : List InsZ := [⟨1, 0, -5, 0, 0⟩, ⟨7, 1, 0, -1, 0⟩, ⟨0, 0, 0, 0, 0⟩]

theorem textW : TextZ txtW rtW prW 3 := by
  refine ⟨rfl, rfl, by decide, fun k hk => ?_, rfl⟩
  rcases (show k = 0 ∨ k = 1 ∨ k = 2 by omega) with rfl | rfl | rfl
  · exact ⟨_, ln0, _, _, rfl, by decide, rfl, by decide, by decide, by decide, by decide, rfl, rfl, _, _, _, _, _, _, line0, rfl⟩
  · exact ⟨_, ln1, _, _, rfl, by decide, rfl, by decide, by decide, by decide, by decide, rfl, rfl, _, _, _, _, _, _, line1, rfl⟩
  · exact ⟨_, ln2, _, _, rfl, by decide, rfl, by decide, by decide, by decide, by decide, rfl, rfl, _, _, _, _, _, _, line2, rfl⟩

section
variable {K : AV → List Nat → List PO → Prop}

theorem written (h : K (bl true) [] [powH]) : Does Tryd.prog 22 [] [powH] K := by
  refine does Tryd.func22 rfl (by decide) ?_
  change Does Tryd.prog 25 _ _ _
  refine codeParse textW ?_
  change Does Tryd.prog 21 _ _ _
  refine Does.on 3 [1, 2] _ _ (equalIns (xs := prW) (ys := prW) (by decide) (fun _ => ?_) fun h => absurd rfl h)
  change Does Tryd.prog 23 _ _ _
  refine Does.on 3 [1] _ _ (right (p := prW) (k := 3) 2 rfl (by decide) (fun _ => ?_) (fun h => absurd h (by decide)) fun h => absurd h (by decide))
  change Does Tryd.prog 23 _ _ _
  refine Does.on 3 [1] _ _ (right (p := prW) (k := 3) 1 rfl (by decide) (fun h => absurd h (by decide)) (fun _ e => ?_) fun _ e i => ?_)
  · exact h
  · exact h

end
end Go.Mac
