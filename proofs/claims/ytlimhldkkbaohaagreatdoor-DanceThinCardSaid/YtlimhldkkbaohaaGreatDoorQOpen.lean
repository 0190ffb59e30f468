/- What is handed in, opened. -/
import Derived.Test.YtlimhldkkbaohaaGreatDoorMacD
import Derived.Test.YtlimhldkkbaohaaGreatDoorGBase
import Derived.Test.YtlimhldkkbaohaaGreatDoorRows
import Derived.ChangeSlices
import Derived.SizedLaws
open Go Go.Proofs Go.Mac Go.ChangeShapes Go.WideShapes Go.ChangeAt Go.RowKit
set_option maxRecDepth 100000
namespace Go.Mac

theorem laidOut : laidOutB Tryz.prog = true := by kernel_rfl

theorem heap_of_cell {w : World} {a : Addr} {v : Value} (h : w.cell? a = some v) : a.spot = none ∧ a.block < w.heap.size := by
  unfold World.cell? at h
  split at h
  · rename_i c t fr hb
    split at h
    · cases h
    · rename_i hs
      refine ⟨by cases hh : a.spot <;> simp [hh] at hs ⊢, ?_⟩
      exact (Array.getElem?_eq_some_iff.1 hb).1
  · cases h

/-- A row of numbers handed in. -/
theorem open_row {H : Type} {enc : TypeId × Value → H} {W : World} {b0 base : Nat} {hd : Bool} {t e : TypeId} {k : IntKind} {v : Value} {d : DataW H} {ps : List MemPlace} (ht : Tryz.prog.underlying t = some (.slice e)) (he : Tryz.prog.underlying e = some (.int k)) (hc : Tryz.prog.cellsOf e = 1)
    (hv : Value.okWide Tryz.prog W .any b0 t v) (h : DataW.Trod enc Tryz.prog W base (fun _ => true) hd t v d ps) :
    ∃ (l : List Int) (loc : Loc), (∀ x ∈ l, (Lit.int k x).wf = true) ∧ l.length ≤ 9223372036854775807 ∧ (∀ (N : Nat) (L : Nat → Loc) (i : Nat), i < N → L i = loc → VA N L (cv (.slc i 0 l.length none false)) v) ∧
      (∀ (N : Nat) (L : Nat → Loc), OR N L W (.rows true 1 (l.map fun x => [.int k x])) loc) ∧ (∀ b, Ro (.rows true 1 (l.map fun x => [.int k x])) loc b → b < W.heap.size) ∧
      (l.length = 0 ∨ ∃ es sp : List (DataW H), d = .slice es sp ∧ es.length = l.length) := by
  obtain ⟨a, len, cap, rfl⟩ := okWide_slice ht hv
  obtain ⟨fuel, hf⟩ := h
  rcases open_ints ht he hc hf with ⟨h1, _⟩ | ⟨a', len', cap', zs, h1, _, hle, hm, hlen, hdx, hcell, hwf⟩
  · simp only [Value.cells, List.cons.injEq, Value.slice.injEq, and_true] at h1
    obtain ⟨rfl, rfl, rfl⟩ := h1
    refine ⟨[], ⟨⟨0, 0, 0, 1⟩, fun _ => ⟨0, 0, 0, 0⟩⟩, by simp, by simp, fun N L i hi hl => ⟨hi, .inl ⟨rfl, rfl, rfl, fun c' hc' => by cases hc'⟩⟩, fun N L => ⟨rfl, by simp, by simp, by simp, by simp⟩, ?_, .inl rfl⟩
    rintro b ⟨hb, _⟩
    exact absurd rfl hb
  · simp only [Value.cells, List.cons.injEq, Value.slice.injEq, and_true] at h1
    obtain ⟨rfl, rfl, rfl⟩ := h1
    simp only [if_true] at hlen
    have hm' : cap ≤ 9223372036854775807 := hm
    have hspot : cap ≠ 0 → a'.spot = none ∧ a'.block < W.heap.size := fun h0 => by
      have := hcell 0 (by omega)
      rw [show a'.add 0 = a' from rfl] at this
      exact heap_of_cell this
    have htl : (zs.take len).length = len := by simp; omega
    refine ⟨zs.take len, ⟨⟨a'.block, a'.off, cap, 1⟩, fun _ => ⟨0, 0, 0, 0⟩⟩, fun x hx => hwf x (List.mem_of_mem_take hx), by rw [htl]; omega, fun N L i hi hl => ⟨hi, .inr ⟨a', cap, ?_, ?_, ?_, ?_, ?_, ?_⟩⟩, fun N L => ⟨rfl, by simp, ?_, by simp, ?_⟩, ?_, .inr ⟨_, _, (Prod.mk.inj hdx).1, by simp [lits]⟩⟩
    · rw [htl]
    · rw [htl]; exact hle
    · intro c' hc'; cases hc'
    · rw [hl]; simp
    · rw [hl]; simp
    · intro h0
      rw [hl]
      obtain ⟨hs, _⟩ := hspot h0
      cases a'
      simp at hs
      subst hs
      simp [ILoc.at]
    · rw [List.length_map, htl]; exact hle
    · intro i r hr
      rw [List.getElem?_map, Option.map_eq_some_iff] at hr
      obtain ⟨x, hx, rfl⟩ := hr
      refine ⟨rfl, fun f y hy => ?_⟩
      cases f with
      | succ f => simp at hy
      | zero =>
        simp only [List.getElem?_cons_zero, Option.some.injEq] at hy
        subst hy
        have hi : i < len := by
          have := (List.getElem?_eq_some_iff.1 hx).1
          omega
        rw [List.getElem?_take_of_lt hi] at hx
        have := hcell i (by omega)
        obtain ⟨hs, _⟩ := hspot (by omega)
        have e : a'.add i = (⟨a'.block, a'.off, cap, 1⟩ : ILoc).at i 0 := by
          cases a'
          simp at hs
          subst hs
          simp only [Addr.add, ILoc.at]
          split
          · subst_vars; simp
          · simp
        rw [e] at this
        rw [this]
        simp [FC.val, List.getD_eq_getElem?_getD, hx]
    · rintro b ⟨hb, rfl⟩
      exact (hspot hb).2

/-- What a row weighs. -/
theorem row_sized {H : Type} {ts : List TypeId} {ds : List (DataW H)} (h : (DataW.weightsEach Tryz.prog ts ds).all (· ≤ reachBytes) = true) {j n : Nat} {t e : TypeId} {d : DataW H} (ht : ts[j]? = some t) (hd : ds[j]? = some d) (hu : Tryz.prog.underlying t = some (.slice e))
    (hl : n = 0 ∨ ∃ es sp : List (DataW H), d = .slice es sp ∧ es.length = n) : n * Tryz.prog.bytesOf e ≤ 140737488355328 := by
  rcases hl with rfl | ⟨es, sp, rfl, rfl⟩
  · simp
  · have h1 := sized_slice h ht hd hu
    have h2 := reachBytes_lt
    have h3 : es.length * Tryz.prog.bytesOf e ≤ (es.length + sp.length) * Tryz.prog.bytesOf e := Nat.mul_le_mul_right _ (by omega)
    omega

theorem VA_str {N : Nat} {L : Nat → Loc} {s : ByteArray} : VA N L (st s.data.toList) (.string s) := by
  show Value.string s = Value.string ⟨s.data.toList.toArray⟩
  congr

/-- Places by their numbers. -/
def locOf (l : List Loc) (i : Nat) : Loc := l.getD i ⟨⟨0, 0, 0, 0⟩, fun _ => ⟨0, 0, 0, 0⟩⟩

end Go.Mac
