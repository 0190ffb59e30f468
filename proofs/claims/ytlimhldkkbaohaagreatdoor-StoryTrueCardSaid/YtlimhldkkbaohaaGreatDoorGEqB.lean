/- Texts that belong together; the first of them: slices.Equal of events. -/
import Derived.Test.YtlimhldkkbaohaaGreatDoorProg
import Derived.Test.YtlimhldkkbaohaaGreatDoorQJudge
import Derived.Test.YtlimhldkkbaohaaGreatDoorQCodeOne
import Derived.Test.YtlimhldkkbaohaaGreatDoorGBase
import Derived.Test.YtlimhldkkbaohaaGreatDoorGForm

/- slices.Equal of events. -/
section
open Go Go.Proofs Go.Mac
set_option maxRecDepth 100000
namespace Go.Mac

section
variable {K : AV → List Nat → List PO → Prop}

theorem plainEv : plainT Tryz.prog 45 = true := by decide +kernel

theorem equalEv {ro1 ro2 : Bool} {xs ys : List EvZ} {c1 c2 : Option Nat} {nn1 nn2 : Bool} (hn : xs.length < 4611686018427387904)
    (h1 : xs = ys → K (bl true) [] [.rows ro1 4 (xs.map rowEv), .rows ro2 4 (ys.map rowEv)]) (h0 : xs ≠ ys → K (bl false) [] [.rows ro1 4 (xs.map rowEv), .rows ro2 4 (ys.map rowEv)]) :
    Does Tryz.prog 17 [cv (.slc 0 0 xs.length c1 nn1), cv (.slc 1 0 ys.length c2 nn2)] [.rows ro1 4 (xs.map rowEv), .rows ro2 4 (ys.map rowEv)] K := by
  refine does Tryz.func17 rfl (by decide) ?_
  refine brc_intro (fun h => ?_) (fun h => ?_)
  · refine h0 ?_
    rintro rfl
    simp at h
  have hl : xs.length = ys.length := by simp at h; omega
  refine SS.loop (fun i : Nat => i ≤ xs.length ∧ ∀ j, j < i → xs[j]? = ys[j]?) (fun i => [(0, cv (.slc 0 0 xs.length c1 nn1)), (1, cv (.slc 1 0 ys.length c2 nn2)), (12, i64 xs.length), (13, i64 i)]) (fun _ => [.rows ro1 4 (xs.map rowEv), .rows ro2 4 (ys.map rowEv)]) (fun i => xs.length - i) []
    (At.mk' [0, 1, 12, 13] 0 (by simp) ⟨rfl, rfl⟩ rfl rfl (by simp) (by simp) (by simp)) ?_
  rintro i ⟨hi, hj⟩
  refine S_r ?_
  refine brc_intro (fun h => ?_) (fun h => ?_)
  · have hlt : i < xs.length := by have := of_decide_eq_true h; omega
    refine SS.inlR ?_
    refine SS.drawR follows (by decide) ?_
    obtain ⟨x, hx⟩ : ∃ x, xs[i]? = some x := ⟨_, List.getElem?_eq_getElem hlt⟩
    obtain ⟨y, hy⟩ : ∃ y, ys[i]? = some y := ⟨_, List.getElem?_eq_getElem (by omega)⟩
    refine at2 (by omega) (by omega) (rdA (rowEv x) (by simp [hx]) ?_)
    refine at2 (by omega) (by omega) (rdA (rowEv y) (by simp [hy]) ?_)
    refine And.intro plainEv ?_
    refine brc_intro (fun h' => ?_) (fun h' => ?_)
    · refine h0 ?_
      rintro rfl
      rw [hx] at hy
      cases hy
      simp at h'
    · have e : x = y := by cases x; cases y; simpa using h'
      refine At.mk' [0, 1, 12, 13] (i + 1) ⟨⟨hlt, fun j hj' => ?_⟩, by omega⟩ ⟨?_, rfl⟩ rfl rfl (by simp) (by simp) (by simp)
      · rcases Nat.lt_succ_iff_lt_or_eq.1 hj' with h | rfl
        · exact hj j h
        · rw [hx, hy, e]
      · rw [wrap_i64 _ (by omega) (by omega)]
        rfl
  · have h := of_decide_eq_false h
    refine h1 (List.ext_getElem? fun j => ?_)
    rcases Nat.lt_or_ge j i with h' | h'
    · exact hj j h'
    · rw [List.getElem?_eq_none (by omega), List.getElem?_eq_none (by omega)]

end
end Go.Mac
end

/- code.Parse: the program that a text is, where each line is an instruction. -/
section
open Go Go.Proofs Go.Mac
set_option maxRecDepth 100000
namespace Go.Mac

/-- A text, and the program that it is. -/
structure TextZ (s : List UInt8) (rs : List (List UInt8)) (xs : List InsZ) (m : Nat) : Prop where
  r0 : rs[0]? = some s
  xl : xs.length = m
  m100 : m ≤ 100
  step : ∀ k, k < m → ∃ r l r' x, rs[k]? = some r ∧ r ≠ [] ∧ rs[k + 1]? = some r' ∧ Lib.indexByte r 10 = l.length ∧ l.length + 1 ≤ r.length ∧ r.length ≤ 1000 ∧ r.take l.length = l ∧ r.drop (l.length + 1) = r' ∧ xs[k]? = some x ∧
    ∃ n ps rs2 op ys ts, LineZ l n ps rs2 op ys ts ∧ x = insL op ys
  last : rs[m]? = some []

section
variable {K : AV → List Nat → List PO → Prop}

theorem codeParse {s : List UInt8} {rs : List (List UInt8)} {xs : List InsZ} {m : Nat} (hT : TextZ s rs xs m) (h : K (.tup [.c (.slc 1 0 m none false), .c .niliface]) [] [powH, .rows false 5 (xs.map rowIns)]) :
    Does Tryz.prog 25 [st s] [powH] K := by
  refine Does.keep 1 rfl ?_
  refine does Tryz.func25 rfl (by decide) ?_
  refine SS.nil 4 5 (by decide) rfl ?_
  have hm := hT.m100
  have hxl := hT.xl
  refine SS.loop (fun k : Nat => k ≤ m) (fun k => [(0, st (rs.getD k [])), (4, cv (.slc 1 0 k none false))]) (fun k => [powH, .rows false 5 ((xs.take k).map rowIns)]) (fun k => m - k) [1, 2]
    (At.mk' [0, 4] 0 (by simp) ⟨?_, rfl⟩ rfl rfl (by simp) (by simp) (by simp)) ?_
  · have e0 : rs.getD 0 [] = s := by rw [List.getD_eq_getElem?_getD, hT.r0]; rfl
    rw [e0]
    rfl
  intro k hk
  change k ≤ m at hk
  refine S_r ?_
  refine brc_intro (fun hne => ?_) (fun hne => ?_)
  · have hne : rs.getD k [] ≠ [] := by simpa using hne
    have hlt : k < m := by
      rcases (show k < m ∨ k = m by omega) with h1 | rfl
      · exact h1
      · exact absurd (by rw [List.getD_eq_getElem?_getD, hT.last]; rfl) hne
    obtain ⟨r, l, r', x, h1, _, h3, h4, h5, h6, h7, h8, h9, n, ps, rs2, op, ys, ts, hL, rfl⟩ := hT.step k hlt
    have e1 : rs.getD k [] = r := by rw [List.getD_eq_getElem?_getD, h1]; rfl
    have e3 : rs.getD (k + 1) [] = r' := by rw [List.getD_eq_getElem?_getD, h3]; rfl
    rw [e1]
    change Does Tryz.prog 38 _ _ _
    refine Does.alone 2 (cut h4 h5 h6 ?_)
    rw [h7, h8]
    change Does Tryz.prog 48 _ _ _
    refine Does.on 2 [0] _ _ (codeOne hL ?_)
    refine brc_intro (fun h => ?_) (fun _ => ?_)
    · exfalso
      have : (k : Int) = 600 := by simpa using h
      omega
    refine And.intro (by simp) (Or.inl (And.intro rfl (And.intro (by rw [List.length_map, List.length_take, hxl]; omega) (And.intro (by show (k + 1) * 40 ≤ _; omega) (And.intro (by show k + 1 ≤ _; omega) ?_)))))
    refine At.mk' [0, 4] (k + 1) ⟨hlt, by omega⟩ ⟨?_, rfl⟩ ?_ rfl (by simp) (by simp) (by decide)
    · rw [e3]
      rfl
    · have e : (xs.take (k + 1)).map rowIns = (xs.take k).map rowIns ++ [rowIns (insL op ys)] := by
        rw [List.take_add_one, h9, List.map_append]
        rfl
      rw [e]
      rfl
  · have hne : rs.getD k [] = [] := by simpa using hne
    have hkm : k = m := by
      rcases (show k < m ∨ k = m by omega) with h1 | rfl
      · obtain ⟨r, _, _, _, h2, h3, _⟩ := hT.step k h1
        exfalso
        rw [List.getD_eq_getElem?_getD, h2] at hne
        exact h3 hne
      · rfl
    subst hkm
    rw [show xs.take k = xs from List.take_of_length_le (by omega)]
    exact ⟨2, [0, 1], _, _, rfl, rfl, by decide, by decide, rfl, rfl, rfl, rfl, rfl, h⟩

end
end Go.Mac
end

/- slices.Equal of instructions. -/
section
open Go Go.Proofs Go.Mac
set_option maxRecDepth 100000
namespace Go.Mac

section
variable {K : AV → List Nat → List PO → Prop}

theorem plainIns : plainT Tryz.prog 61 = true := by decide +kernel

theorem equalIns {ro1 ro2 : Bool} {xs ys : List InsZ} {c1 c2 : Option Nat} {nn1 nn2 : Bool} (hn : xs.length < 4611686018427387904)
    (h1 : xs = ys → K (bl true) [] [.rows ro1 5 (xs.map rowIns), .rows ro2 5 (ys.map rowIns)]) (h0 : xs ≠ ys → K (bl false) [] [.rows ro1 5 (xs.map rowIns), .rows ro2 5 (ys.map rowIns)]) :
    Does Tryz.prog 26 [cv (.slc 0 0 xs.length c1 nn1), cv (.slc 1 0 ys.length c2 nn2)] [.rows ro1 5 (xs.map rowIns), .rows ro2 5 (ys.map rowIns)] K := by
  refine does Tryz.func26 rfl (by decide) ?_
  refine brc_intro (fun h => ?_) (fun h => ?_)
  · refine h0 ?_
    rintro rfl
    simp at h
  have hl : xs.length = ys.length := by simp at h; omega
  refine SS.loop (fun i : Nat => i ≤ xs.length ∧ ∀ j, j < i → xs[j]? = ys[j]?) (fun i => [(0, cv (.slc 0 0 xs.length c1 nn1)), (1, cv (.slc 1 0 ys.length c2 nn2)), (12, i64 xs.length), (13, i64 i)]) (fun _ => [.rows ro1 5 (xs.map rowIns), .rows ro2 5 (ys.map rowIns)]) (fun i => xs.length - i) []
    (At.mk' [0, 1, 12, 13] 0 (by simp) ⟨rfl, rfl⟩ rfl rfl (by simp) (by simp) (by simp)) ?_
  rintro i ⟨hi, hj⟩
  refine S_r ?_
  refine brc_intro (fun h => ?_) (fun h => ?_)
  · have hlt : i < xs.length := by have := of_decide_eq_true h; omega
    refine SS.inlR ?_
    refine SS.drawR follows (by decide) ?_
    obtain ⟨x, hx⟩ : ∃ x, xs[i]? = some x := ⟨_, List.getElem?_eq_getElem hlt⟩
    obtain ⟨y, hy⟩ : ∃ y, ys[i]? = some y := ⟨_, List.getElem?_eq_getElem (by omega)⟩
    refine at2 (by omega) (by omega) (rdA (rowIns x) (by simp [hx]) ?_)
    refine at2 (by omega) (by omega) (rdA (rowIns y) (by simp [hy]) ?_)
    refine And.intro plainIns ?_
    refine brc_intro (fun h' => ?_) (fun h' => ?_)
    · refine h0 ?_
      rintro rfl
      rw [hx] at hy
      cases hy
      simp at h'
    · have e : x = y := by cases x; cases y; simpa using h'
      refine At.mk' [0, 1, 12, 13] (i + 1) ⟨⟨hlt, fun j hj' => ?_⟩, by omega⟩ ⟨?_, rfl⟩ rfl rfl (by simp) (by simp) (by simp)
      · rcases Nat.lt_succ_iff_lt_or_eq.1 hj' with h | rfl
        · exact hj j h
        · rw [hx, hy, e]
      · rw [wrap_i64 _ (by omega) (by omega)]
        rfl
  · have h := of_decide_eq_false h
    refine h1 (List.ext_getElem? fun j => ?_)
    rcases Nat.lt_or_ge j i with h' | h'
    · exact hj j h'
    · rw [List.getElem?_eq_none (by omega), List.getElem?_eq_none (by omega)]

end
end Go.Mac
end

/- The text that the laws ask for first: it reads as its program. -/
section
open Go Go.Proofs Go.Mac
set_option maxRecDepth 100000
namespace Go.Mac

theorem itoa_0 : Lib.itoa 0 = [48] := by simp [Lib.itoa, Lib.decDigits]
theorem itoa_1 : Lib.itoa 1 = [49] := by simp [Lib.itoa, Lib.decDigits]
theorem itoa_m1 : Lib.itoa (-1) = [45, 49] := by simp [Lib.itoa, Lib.decDigits]
theorem itoa_m5 : Lib.itoa (-5) = [45, 53] := by simp [Lib.itoa, Lib.decDigits]

abbrev ln0 : List UInt8 := [108, 101, 116, 32, 48, 32, 45, 53]
abbrev ps0 : List (List UInt8) := [[108, 101, 116], [48], [45, 53]]
abbrev rt0 : List (List UInt8) := [[108, 101, 116, 32, 48, 32, 45, 53], [48, 32, 45, 53], [45, 53]]

theorem parts0 : PartsS 32 2 ps0 rt0 := by
  refine ⟨rfl, fun i hi => ?_, rfl⟩
  rcases (show i = 0 ∨ i = 1 by omega) with rfl | rfl
  all_goals exact ⟨_, _, _, rfl, rfl, rfl, by decide, by decide, by decide, by decide, by decide⟩

theorem line0 : LineZ ln0 2 ps0 rt0 1 [0, -5, 0, 0] [1, 2, 3, 3, 3] := by
  refine ⟨parts0, by decide, by decide, by decide, rfl, by decide, rfl, by decide, rfl, rfl, rfl, fun i hi => ?_⟩
  rcases (show i = 0 ∨ i = 1 ∨ i = 2 ∨ i = 3 by omega) with rfl | rfl | rfl | rfl
  · exact .inr ⟨by decide, by decide, rfl, _, rfl, by decide, by decide, itoa_0, by decide, by decide⟩
  · exact .inr ⟨by decide, by decide, rfl, _, rfl, by decide, by decide, itoa_m5, by decide, by decide⟩
  · exact .inl ⟨rfl, rfl, rfl⟩
  · exact .inl ⟨rfl, rfl, rfl⟩

abbrev ln1 : List UInt8 := [115, 116, 111, 114, 101, 32, 49, 32, 48, 32, 45, 49]
abbrev ps1 : List (List UInt8) := [[115, 116, 111, 114, 101], [49], [48], [45, 49]]
abbrev rt1 : List (List UInt8) := [[115, 116, 111, 114, 101, 32, 49, 32, 48, 32, 45, 49], [49, 32, 48, 32, 45, 49], [48, 32, 45, 49], [45, 49]]

theorem parts1 : PartsS 32 3 ps1 rt1 := by
  refine ⟨rfl, fun i hi => ?_, rfl⟩
  rcases (show i = 0 ∨ i = 1 ∨ i = 2 by omega) with rfl | rfl | rfl
  all_goals exact ⟨_, _, _, rfl, rfl, rfl, by decide, by decide, by decide, by decide, by decide⟩

theorem line1 : LineZ ln1 3 ps1 rt1 7 [1, 0, -1, 0] [1, 2, 3, 4, 4] := by
  refine ⟨parts1, by decide, by decide, by decide, rfl, by decide, rfl, by decide, rfl, rfl, rfl, fun i hi => ?_⟩
  rcases (show i = 0 ∨ i = 1 ∨ i = 2 ∨ i = 3 by omega) with rfl | rfl | rfl | rfl
  · exact .inr ⟨by decide, by decide, rfl, _, rfl, by decide, by decide, itoa_1, by decide, by decide⟩
  · exact .inr ⟨by decide, by decide, rfl, _, rfl, by decide, by decide, itoa_0, by decide, by decide⟩
  · exact .inr ⟨by decide, by decide, rfl, _, rfl, by decide, by decide, itoa_m1, by decide, by decide⟩
  · exact .inl ⟨rfl, rfl, rfl⟩

abbrev ln2 : List UInt8 := [104, 97, 108, 116]
abbrev ps2 : List (List UInt8) := [[104, 97, 108, 116]]
abbrev rt2 : List (List UInt8) := [[104, 97, 108, 116]]

theorem parts2 : PartsS 32 0 ps2 rt2 := by
  refine ⟨rfl, fun i hi => ?_, rfl⟩
  omega

theorem line2 : LineZ ln2 0 ps2 rt2 0 [0, 0, 0, 0] [1, 1, 1, 1, 1] := by
  refine ⟨parts2, by decide, by decide, by decide, rfl, by decide, rfl, by decide, rfl, rfl, rfl, fun i hi => ?_⟩
  rcases (show i = 0 ∨ i = 1 ∨ i = 2 ∨ i = 3 by omega) with rfl | rfl | rfl | rfl
  · exact .inl ⟨rfl, rfl, rfl⟩
  · exact .inl ⟨rfl, rfl, rfl⟩
  · exact .inl ⟨rfl, rfl, rfl⟩
  · exact .inl ⟨rfl, rfl, rfl⟩

abbrev txtW : List UInt8 := [108, 101, 116, 32, 48, 32, 45, 53, 10, 115, 116, 111, 114, 101, 32, 49, 32, 48, 32, 45, 49, 10, 104, 97, 108, 116, 10]
abbrev rtW : List (List UInt8) := [[108, 101, 116, 32, 48, 32, 45, 53, 10, 115, 116, 111, 114, 101, 32, 49, 32, 48, 32, 45, 49, 10, 104, 97, 108, 116, 10], [115, 116, 111, 114, 101, 32, 49, 32, 48, 32, 45, 49, 10, 104, 97, 108, 116, 10], [104, 97, 108, 116, 10], []]
abbrev prW : List InsZ := [⟨1, 0, -5, 0, 0⟩, ⟨7, 1, 0, -1, 0⟩, ⟨0, 0, 0, 0, 0⟩]

theorem textW : TextZ txtW rtW prW 3 := by
  refine ⟨rfl, rfl, by decide, fun k hk => ?_, rfl⟩
  rcases (show k = 0 ∨ k = 1 ∨ k = 2 by omega) with rfl | rfl | rfl
  · exact ⟨_, ln0, _, _, rfl, by decide, rfl, by decide, by decide, by decide, by decide, rfl, rfl, _, _, _, _, _, _, line0, rfl⟩
  · exact ⟨_, ln1, _, _, rfl, by decide, rfl, by decide, by decide, by decide, by decide, rfl, rfl, _, _, _, _, _, _, line1, rfl⟩
  · exact ⟨_, ln2, _, _, rfl, by decide, rfl, by decide, by decide, by decide, by decide, rfl, rfl, _, _, _, _, _, _, line2, rfl⟩

section
variable {K : AV → List Nat → List PO → Prop}

theorem written (h : K (bl true) [] [powH]) : Does Tryz.prog 7 [] [powH] K := by
  refine does Tryz.func7 rfl (by decide) ?_
  change Does Tryz.prog 25 _ _ _
  refine codeParse textW ?_
  change Does Tryz.prog 26 _ _ _
  refine Does.on 3 [1, 2] _ _ (equalIns (xs := prW) (ys := prW) (by decide) (fun _ => ?_) fun h => absurd rfl h)
  change Does Tryz.prog 11 _ _ _
  refine Does.on 3 [1] _ _ (right (p := prW) (k := 3) 2 rfl (by decide) (fun _ => ?_) (fun h => absurd h (by decide)) fun h => absurd h (by decide))
  change Does Tryz.prog 11 _ _ _
  refine Does.on 3 [1] _ _ (right (p := prW) (k := 3) 1 rfl (by decide) (fun h => absurd h (by decide)) (fun _ e => ?_) fun _ e i => ?_)
  · exact h
  · exact h

end
end Go.Mac
end
