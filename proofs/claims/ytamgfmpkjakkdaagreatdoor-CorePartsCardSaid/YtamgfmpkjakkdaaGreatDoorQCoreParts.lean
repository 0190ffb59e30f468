/- A run in two parts does as the whole. -/
import Derived.Test.YtamgfmpkjakkdaaGreatDoorQWritten
import Derived.Test.YtamgfmpkjakkdaaGreatDoorQBehind
import Derived.Test.YtamgfmpkjakkdaaGreatDoorQGone
import Derived.Test.YtamgfmpkjakkdaaGreatDoorQCount
import Derived.Test.YtamgfmpkjakkdaaGreatDoorGBase
import Derived.Test.YtamgfmpkjakkdaaGreatDoorQEqEv
import Derived.Test.YtamgfmpkjakkdaaGreatDoorQEqAct
import Derived.Test.YtamgfmpkjakkdaaGreatDoorQRunApp
import Derived.Test.YtamgfmpkjakkdaaGreatDoorQSub
open Go Go.Proofs Go.Mac
set_option maxRecDepth 100000
namespace Go.Mac

theorem coreParts (ps : List (List InsZ)) (hl : ps.length ≤ 9223372036854775807) (ws : List Int) (hws : ∀ x ∈ ws, 0 ≤ x ∧ x < 18446744073709551616) (hwl : ws.length ≤ 9223372036854775807) (xs : List Int) (_hx : ∀ x ∈ xs, -9223372036854775808 ≤ x ∧ x ≤ 9223372036854775807) (_hxl : xs.length ≤ 9223372036854775807) (a : Int) (_ha : -9223372036854775808 ≤ a ∧ a ≤ 9223372036854775807) :
    Does Tryz.prog 5 [cv (.slc 0 0 ps.length none false), cv (.slc 1 0 ws.length none false), cv (.slc 2 0 xs.length none false), i64 a] [.rows2 true 5 (ps.map fun p => p.map rowIns), .rows true 1 (ws.map rowU), .rows true 1 (xs.map rowZ), rtH, powH] fun v _ _ => v = bl true := by
  refine does Tryz.func5 rfl (by decide) ?_
  change Does Tryz.prog 9 _ _ _
  refine Does.alone 5 (gone ?_)
  change Does Tryz.prog 10 _ _ _
  refine Does.on 5 [4] _ _ (written ?_)
  refine brc_intro (fun _ => rfl) (fun h => ?_)
  have hxs : xs.length ≤ 300 := by
    have := of_decide_eq_false h
    omega
  change Does Tryz.prog 11 _ _ _
  refine Does.on 5 [0, 1] _ _ (fitsAll (ps := ps) (ws := ws) rfl rfl hl hwl ?_)
  refine brc_intro (fun _ => rfl) (fun hf => ?_)
  have hf : fitsP ps ws.length = true := by simpa using hf
  change Does Tryz.prog 13 _ _ _
  rw [wrap_i64 ((xs.length : Int) + 1) (by omega) (by omega)]
  refine Does.alone 5 (pick a (xs.length + 1) (by omega) ?_)
  have hpa := pickZ_lt a (n := xs.length + 1) (by omega)
  obtain ⟨k, hk⟩ := Int.eq_ofNat_of_zero_le hpa.1
  rw [hk] at hpa ⊢
  have hkl : k ≤ xs.length := by omega
  clear hk hpa
  obtain ⟨z, hz⟩ : ∃ z, mz0 ps ws = z := ⟨_, rfl⟩
  have hz0 : movesZ (mz0 ps ws) [] = z := hz
  have hzk : z.k = 0 := by rw [← hz]; rfl
  change Does Tryz.prog 12 _ _ _
  refine Does.nilArg3 2 (by decide) ?_
  refine Does.on 6 [0, 1, 5] _ _ (behind (ps := ps) (ws := ws) (ms := []) (ro3 := false) (k := 0) rfl rfl rfl hf (by omega) hws hz0 fun v hv hw => ?_)
  change Does Tryz.prog 12 _ _ _
  refine Does.nilArg3 2 (by decide) ?_
  refine Does.on 16 [0, 1, 15] _ _ (behind (ps := ps) (ws := ws) (ms := []) (ro3 := false) (k := 0) rfl rfl rfl hf (by omega) hws hz0 fun v2 hv2 hw2 => ?_)
  change Does Tryz.prog 20 _ _ _
  refine Does.on 25 [6, 7, 8, 9, 10, 11, 12, 13, 14, 2] _ _ (coreRun (m := z) (v := v) (l := xs) (n := xs.length) (ro := true) hw hv rfl (by omega) fun v3 hv3 => ?_)
  refine SS.drawR follows (by decide) ?_
  have k0 : (0 : Int) ≤ (k : Int) := by omega
  have k1 : (k : Int) ≤ (xs.length : Int) := by omega
  refine Or.inl (at2 k0 k1 ?_)
  refine Or.inl (at2 k0 k1 ?_)
  change Does Tryz.prog 20 [cv (.ptr 16 0), cv (.slc 2 0 k none (false || Nat.blt 0 xs.length))] _ _
  refine Does.sub2 (rs := xs.map rowZ) (sz := 1) rfl (Nat.zero_le _) ?_
  rw [show ((xs.map rowZ).drop 0).take k = (xs.take k).map rowZ from by rw [List.drop_zero, List.map_take]]
  have hw3 := runM_wf hw2 (xs.take k)
  have ht : (xs.take k).length = k := by rw [List.length_take]; omega
  refine Does.on 26 [16, 17, 18, 19, 20, 21, 22, 23, 24, 25] _ _ (coreRun (m := z) (v := v2) (l := xs.take k) (n := k) (ro := true) hw2 hv2 ht (by omega) fun v4 hv4 => ?_)
  repeat' (first | refine And.intro rfl ?_ | refine And.intro (Or.inl (And.intro k0 (And.intro k1 rfl))) ?_ | fail)
  change Does Tryz.prog 20 [cv (.ptr 16 0), cv (.slc 2 (0 + k) (xs.length - k) none (false || Nat.blt 0 xs.length))] _ _
  rw [Nat.zero_add]
  refine Does.sub2 (rs := xs.map rowZ) (sz := 1) rfl (by rw [List.length_map]; exact hkl) ?_
  rw [show ((xs.map rowZ).drop k).take (xs.length - k) = (xs.drop k).map rowZ from by rw [List.take_of_length_le (by simp), List.map_drop]]
  have hd : (xs.drop k).length = xs.length - k := by rw [List.length_drop]
  refine Does.on 27 [16, 17, 18, 19, 20, 21, 22, 23, 24, 26] _ _ (coreRun (m := (runM z (xs.take k)).2) (v := v4) (l := xs.drop k) (n := xs.length - k) (ro := true) hw3 hv4 hd (by omega) fun v5 hv5 => ?_)
  repeat' (first | refine And.intro rfl ?_ | refine And.intro (Or.inl (And.intro k0 (And.intro k1 rfl))) ?_ | fail)
  have hw5 := runM_wf hw3 (xs.drop k)
  have hw1 := runM_wf hw xs
  have hA : runM z xs = ((runM z (xs.take k)).1 + (runM (runM z (xs.take k)).2 (xs.drop k)).1, (runM (runM z (xs.take k)).2 (xs.drop k)).2) := by
    rw [← runM_app, List.take_append_drop]
  have hK := runM_k z xs
  have hle := runM_le z xs
  rw [hzk, Nat.add_zero] at hK
  rw [hA] at hw1 hK hle ⊢
  generalize runM (runM z (xs.take k)).2 (xs.drop k) = C at hw5 hw1 hK hle
  generalize runM z (xs.take k) = A at hw3 hw1 hK hle
  obtain ⟨n1, z1⟩ := A
  obtain ⟨n2, z2⟩ := C
  dsimp only at hw5 hw1 hK hle
  have hal := hw5.al
  have hel := hw5.el
  have hk2 := hw5.k
  have hnc := hw5.nc
  have hw300 := hw5.ws.1
  have wn : IntKind.i64.wrap ((n1 : Int) + (n2 : Int)) = ((n1 + n2 : Nat) : Int) := wrap_i64 _ (by omega) (by omega)
  refine brc_intro (fun _ => ?_) (fun h => ?_)
  · change Does Tryz.prog 15 _ _ _
    refine Does.on 27 [6, 7, 8, 9, 10, 11, 12, 13, 14] _ _ (coreSteps (m := z2) (v := v3) ?_)
    refine brc_intro (fun _ => ?_) (fun h => ?_)
    · change Does Tryz.prog 22 _ _ _
      refine Does.on 27 [6, 7, 8, 9, 10, 11, 12, 13, 14] _ _ (coreActs (m := z2) (v := v3) (by omega) ?_)
      change Does Tryz.prog 22 _ _ _
      refine Does.on 28 [16, 17, 18, 19, 20, 21, 22, 23, 24] _ _ (coreActs (m := z2) (v := v5) (by omega) ?_)
      change Does Tryz.prog 21 _ _ _
      refine Does.on 29 [27, 28] _ _ (equalAct (xs := z2.al) (ys := z2.al) (by omega) (fun _ => ?_) fun h => absurd rfl h)
      change Does Tryz.prog 24 _ _ _
      refine Does.on 29 [6, 7, 8, 9, 10, 11, 12, 13, 14] _ _ (coreEvents (m := z2) (v := v3) (by omega) ?_)
      change Does Tryz.prog 24 _ _ _
      refine Does.on 30 [16, 17, 18, 19, 20, 21, 22, 23, 24] _ _ (coreEvents (m := z2) (v := v5) (by omega) ?_)
      change Does Tryz.prog 23 _ _ _
      refine Does.on 31 [29, 30] _ _ (equalEv (xs := z2.el) (ys := z2.el) (by omega) (fun _ => ?_) fun h => absurd rfl h)
      change Does Tryz.prog 26 _ _ _
      refine Does.on 31 [6, 7, 8, 9, 10, 11, 12, 13, 14] _ _ (coreCellsL (m := z2) (v := v3) hw5 rfl ?_)
      change Does Tryz.prog 26 _ _ _
      refine Does.on 32 [16, 17, 18, 19, 20, 21, 22, 23, 24] _ _ (coreCellsL (m := z2) (v := v5) hw5 rfl ?_)
      change Does Tryz.prog 25 _ _ _
      refine Does.on 33 [31, 32] _ _ (equalU (xs := z2.ws) (ys := z2.ws) (by omega) (fun _ => ?_) fun h => absurd rfl h)
      exact rfl
    · exfalso
      change ((((n1 + n2 : Nat) : Int)) == (z2.k : Int)) = false at h
      rw [hK] at h
      simp at h
  · exfalso
    change ((((n1 + n2 : Nat) : Int)) == IntKind.i64.wrap ((n1 : Int) + (n2 : Int))) = false at h
    rw [wn] at h
    simp at h

end Go.Mac
