/- strings.Cut, strings.Split, at a separator of one byte. -/
import Derived.Test.YtlimhldkkbaohaaGreatDoorQStrs
import Derived.Test.YtlimhldkkbaohaaGreatDoorQShelf
open Go Go.Proofs Go.Mac
set_option maxRecDepth 100000
namespace Go.Mac

abbrev rowStr (s : List UInt8) : List FC := [.str s]

section
variable {K : AV → List Nat → List PO → Prop}

theorem litCut {s : List UInt8} {c : UInt8} {i : Nat} (hi : Lib.indexByte s c = i) (hl : i + 1 ≤ s.length) (hs : s.length ≤ 1000) (h : K (.tup [.c (.f (.str (s.take i))), .c (.f (.str (s.drop (i + 1)))), .c (.f (.bool true))]) [] []) :
    Does Tryz.prog 64 [st s, st [c]] [] K := by
  refine does Tryz.func64 rfl (by decide) ?_
  change Does Tryz.prog 93 _ _ _
  refine strIndex s c ?_
  rw [hi]
  refine SS.drawR follows (by decide) ?_
  have wi : IntKind.i64.wrap ((i : Int) + ([c].length : Nat)) = ((i + 1 : Nat) : Int) := wrap_i64 _ (by simp; omega) (by simp; omega)
  refine at2 (by omega) (by omega) ?_
  refine at2 (by rw [wi]; omega) (by rw [wi]; omega) ?_
  have e1 : List.take ((i : Int).toNat - 0) (List.drop 0 s) = s.take i := by simp
  have e2 : List.take (s.length - (IntKind.i64.wrap ((i : Int) + ([c].length : Nat))).toNat) (List.drop (IntKind.i64.wrap ((i : Int) + ([c].length : Nat))).toNat s) = s.drop (i + 1) := by rw [wi, Int.toNat_natCast, List.take_of_length_le]; simp
  have w0 : (0 : Int) ≤ IntKind.i64.wrap ((i : Int) + ([c].length : Nat)) := by rw [wi]; omega
  have w1 : IntKind.i64.wrap ((i : Int) + ([c].length : Nat)) ≤ (s.length : Int) := by rw [wi]; omega
  rw [← e1, ← e2] at h
  repeat' (first | refine And.intro rfl ?_ | refine And.intro (And.intro w0 (And.intro w1 rfl)) ?_ | fail)
  exact h

theorem cut {s : List UInt8} {c : UInt8} {i : Nat} (hi : Lib.indexByte s c = i) (hl : i + 1 ≤ s.length) (hs : s.length ≤ 1000) (h : K (.tup [.c (.f (.str (s.take i))), .c (.f (.str (s.drop (i + 1)))), .c (.f (.bool true))]) [] []) :
    Does Tryz.prog 38 [st s, st [c]] [] K := by
  refine does Tryz.func38 rfl (by decide) ?_
  change Does Tryz.prog 64 _ _ _
  refine litCut hi hl hs ?_
  exact h

theorem index1 (s : List UInt8) (c : UInt8) (h : K (i64 (Lib.indexByte s c)) [] []) : Does Tryz.prog 116 [st s, st [c]] [] K := by
  refine does Tryz.func116 rfl (by decide) ?_
  change Does Tryz.prog 93 _ _ _
  refine strIndex s c ?_
  exact h

theorem Rel.grow8 {B R : Nat → Prop} {w0 : World} {L : Nat → Loc} {H : List PO} {w w' : World} (h : Rel B R w0 L H w) (hb : Bel (fun k => k < w.heap.size) w w') : Rel B R w0 L H w' := by
  have hB : ∀ b, B b → w'.heap[b]? = w.heap[b]? := fun b hb' => hb.block b (h.size b hb')
  refine ⟨h.below.trans ⟨hb.os, hb.tape, hb.output, hb.size, hB⟩, h.start, fun i o hi => ?_, fun i o b hi ho => ?_, h.ro, h.sub⟩
  · have := (h.obj i o hi).mono (M := []) (w' := w') (Nat.le_refl _) (Agree.refl _ _ _) fun b hob => by
      rcases hob with ho | hr
      · exact hb.block b (h.own i o b hi ho).2.1
      · exact hB b (h.sub b (h.ro i o b hi hr))
    rwa [killO_nil] at this
  · obtain ⟨h1, h2, h3⟩ := h.own i o b hi ho
    exact ⟨h1, Nat.lt_of_lt_of_le h2 hb.size, h3⟩

theorem bytes_grown (w : World) (e : TypeId) (s : ByteArray) : Bel (fun k => k < w.heap.size) w (Lib.bytesWorld w e s) := by
  refine ⟨rfl, rfl, rfl, by rw [Lib.bytesWorld_size]; omega, fun k hk => Lib.bytesWorld_at_old w e s k hk⟩

theorem strAtoi (s : List UInt8) (n : Int) (hl : s.length ≤ 18) (ha : Lib.atoi s = some n) (h : K (.tup [.c (.f (.int .i64 n)), .c .niliface]) [] []) : Does Tryz.prog 79 [st s] [] K := by
  refine ⟨⟨_, Tryz.func79, by decide, rfl⟩, fun B R w0 L w vs hrel hvs => ?_⟩
  obtain ⟨_, _, rfl, rfl, rfl⟩ := hvs
  refine (Go.Proofs.Tryz.strconv_Atoi ⟨s.toArray⟩ n hl ha w).mono ?_
  rintro e w' ⟨rfl, t, rfl⟩
  exact ⟨_, rfl, L, .tup [.c (.f (.int .i64 n)), .c .niliface], [], [], Agree.refl _ _ _, Nat.le_refl 0, ⟨_, rfl, _, _, rfl, rfl, _, _, rfl, rfl, rfl⟩, hrel.grow8 (bytes_grown _ _ _), h⟩

theorem drewN_grown (w : World) (k : Nat) (os : Array Obj) : Bel (fun k => k < w.heap.size) w (Go.Sort.grow (w.drewN k) os) := by
  refine ⟨rfl, rfl, rfl, ?_, fun j hj => ?_⟩
  · show w.heap.size ≤ (w.heap ++ os).size
    rw [Array.size_append]; omega
  · show (w.heap ++ os)[j]? = w.heap[j]?
    rw [Array.getElem?_append_left hj]

/-- The table of the powers of ten. -/
abbrev powH : PO := .tab 3 (Lib.pow10Tab.map fun z => .int .u64 z)

theorem pow_named : Tryz.prog.globalNamed "internal/strconv.uint64pow10" = some 3 := by kernel_rfl

theorem strItoa (n : Int) (h0 : -9223372036854775808 ≤ n) (h1 : n ≤ 9223372036854775807) (h : K (st (Lib.itoa n)) [] [powH]) : Does Tryz.prog 36 [i64 n] [powH] K := by
  refine ⟨⟨_, Tryz.func36, by decide, rfl⟩, fun B R w0 L w vs hrel hvs => ?_⟩
  obtain ⟨_, _, rfl, rfl, rfl⟩ := hvs
  obtain ⟨t, fr, hg⟩ := hrel.obj 0 _ rfl
  have htab : Lib.TabIs Tryz.prog w "internal/strconv.uint64pow10" .u64 Lib.pow10Tab := by
    unfold Lib.TabIs World.var?
    rw [pow_named]
    show (match w.heap[_]? with | some (Obj.cells cs _ _) => some cs | _ => none) = _
    rw [hg, List.map_map]
    rfl
  refine (Go.Proofs.Tryz.strconv_Itoa n h0 h1 w htab).mono ?_
  rintro e w' ⟨rfl, k, os, rfl⟩
  exact ⟨_, rfl, L, st (Lib.itoa n), [], [powH], Agree.refl _ _ _, Nat.le_refl 1, rfl, hrel.grow8 (drewN_grown _ _ _), h⟩

end
end Go.Mac
