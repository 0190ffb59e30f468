/- Texts that belong together; the first of them: A row of structs handed in, opened. -/
import Derived.Test.YtlimhldkkbaohaaDoorQOpen
import Derived.Deep.Strs

/- A row of structs handed in, opened. -/
section
open Go Go.Proofs Go.Mac Go.ChangeShapes Go.WideShapes Go.ChangeAt Go.RowKit
set_option maxRecDepth 100000
namespace Go.Mac

theorem list_of {α : Type} {P : Nat → α → Prop} : ∀ n : Nat, (∀ i, i < n → ∃ x, P i x) → ∃ l : List α, l.length = n ∧ ∀ (i : Nat) (x : α), l[i]? = some x → P i x
  | 0, _ => ⟨[], rfl, fun i x h => by simp at h⟩
  | n + 1, h => by
    obtain ⟨l, hl, hp⟩ := list_of n fun i hi => h i (by omega)
    obtain ⟨x, hx⟩ := h n (by omega)
    refine ⟨l ++ [x], by simp [hl], fun i y hy => ?_⟩
    rcases Nat.lt_or_ge i n with hi | hi
    · rw [List.getElem?_append_left (by omega)] at hy
      exact hp i y hy
    · rw [List.getElem?_append_right (by omega), hl] at hy
      have hi' : i - n = 0 := by
        have := (List.getElem?_eq_some_iff.1 hy).1
        simp at this
        omega
      rw [hi'] at hy
      simp at hy
      subst hy
      have : i = n := by omega
      subst this
      exact hx

theorem cells_get {w : World} {base n : Nat} {a : Addr} {cs : List Value} (h : w.cells? base a n = some cs) : cs.length = n ∧ ∀ f, f < n → w.cell? (a.add f) = cs[f]? := by
  unfold World.cells? at h
  split at h
  · exact ⟨by simpa using mapM_some_length h, fun f hf => mapM_some_get h f f (by simp [hf])⟩
  · cases h

theorem add_at {a : Addr} (h : a.spot = none) (i sz f cap : Nat) : (a.add (i * sz)).add f = (⟨a.block, a.off, cap, sz⟩ : ILoc).at i f := by
  cases a
  simp at h
  subst h
  simp only [Addr.add, ILoc.at]
  split <;> split <;> simp_all

theorem open_rows {H : Type} {enc : TypeId × Value → H} {W : World} {b0 base : Nat} {hd : Bool} {t e : TypeId} {α : Type} (row : α → List FC) (Q : α → Prop) (sz : Nat) {v : Value} {d : DataW H} {ps : List MemPlace} (ht : Tryd.prog.underlying t = some (.slice e)) (hsz : Tryd.prog.cellsOf e = sz) (hpos : 0 < sz)
    (hrow : ∀ x, (row x).length = sz)
    (hel : ∀ (n : Nat) (cs : List Value) (y : DataW H × List MemPlace), DataW.trod enc Tryd.prog W base (fun _ => true) hd n e cs = some y → cs.length = sz → ∃ x, cs = (row x).map FC.val ∧ Q x)
    (hv : Value.okWide Tryd.prog W .any b0 t v) (h : DataW.Trod enc Tryd.prog W base (fun _ => true) hd t v d ps) :
    ∃ (l : List α) (loc : Loc), (∀ x ∈ l, Q x) ∧ l.length ≤ 9223372036854775807 ∧ (∀ (N : Nat) (L : Nat → Loc) (i : Nat), i < N → L i = loc → VA N L (cv (.slc i 0 l.length none false)) v) ∧
      (∀ (N : Nat) (L : Nat → Loc), OR N L W (.rows true sz (l.map row)) loc) ∧ (∀ b, Ro (.rows true sz (l.map row)) loc b → b < W.heap.size) ∧
      (l.length = 0 ∨ ∃ es sp : List (DataW H), d = .slice es sp ∧ es.length = l.length) := by
  obtain ⟨a, len, cap, rfl⟩ := okWide_slice ht hv
  obtain ⟨fuel, hf⟩ := h
  rcases DataW.trod_slice ht hf with ⟨h1, _⟩ | ⟨a', len', cap', elems, rest, n, _, h1, hdx, hb, hle, hm, hlen, helems, hrest, _⟩
  · simp only [Value.cells, List.cons.injEq, Value.slice.injEq, and_true] at h1
    obtain ⟨rfl, rfl, rfl⟩ := h1
    refine ⟨[], ⟨⟨0, 0, 0, sz⟩, fun _ => ⟨0, 0, 0, 0⟩⟩, by simp, by simp, fun N L i hi hl => ⟨hi, .inl ⟨rfl, rfl, rfl, fun c' hc' => by cases hc'⟩⟩, fun N L => ⟨rfl, hpos, by simp, by simp, by simp⟩, ?_, .inl rfl⟩
    rintro b ⟨hb, _⟩
    exact absurd rfl hb
  · simp only [Value.cells, List.cons.injEq, Value.slice.injEq, and_true] at h1
    obtain ⟨rfl, rfl, rfl⟩ := h1
    have hm' : cap ≤ 9223372036854775807 := hm
    rw [hsz] at helems hrest
    have one : ∀ (i : Nat) (y : DataW H × List MemPlace), (W.cells? base (a'.add (i * sz)) sz).bind (DataW.trod enc Tryd.prog W base (fun _ => true) hd n e) = some y →
        ∃ x, Q x ∧ ∀ (f : Nat) (u : FC), (row x)[f]? = some u → W.cell? ((a'.add (i * sz)).add f) = some u.val := by
      intro i y hy
      rw [Option.bind_eq_some_iff] at hy
      obtain ⟨cs, hcs, hy⟩ := hy
      obtain ⟨hl, hg⟩ := cells_get hcs
      obtain ⟨x, hx, hq⟩ := hel n cs y hy hl
      refine ⟨x, hq, fun f u hu => ?_⟩
      have hfl : f < sz := by have := (List.getElem?_eq_some_iff.1 hu).1; rwa [hrow] at this
      rw [hg f hfl, hx, List.getElem?_map, hu]
      rfl
    have hspot : cap ≠ 0 → a'.spot = none ∧ a'.block < W.heap.size := fun h0 => by
      have : ∃ y, (W.cells? base (a'.add (0 * sz)) sz).bind (DataW.trod enc Tryd.prog W base (fun _ => true) hd n e) = some y := by
        rcases Nat.eq_zero_or_pos len with hl | hl
        · obtain ⟨hrl, hr⟩ := hrest rfl
          have := hr 0 (by omega)
          rw [hl] at this
          exact ⟨_, this.trans (List.getElem?_eq_getElem (by omega))⟩
        · exact ⟨_, (helems 0 hl).trans (List.getElem?_eq_getElem (by omega))⟩
      obtain ⟨y, hy⟩ := this
      obtain ⟨x, _, hx⟩ := one 0 y hy
      obtain ⟨u, hu⟩ : ∃ u, (row x)[0]? = some u := ⟨_, List.getElem?_eq_getElem (by rw [hrow]; exact hpos)⟩
      have := hx 0 u hu
      rw [Nat.zero_mul] at this
      exact heap_of_cell (a := a') this
    obtain ⟨l, hll, hl⟩ := list_of (P := fun i x => Q x ∧ ∀ (f : Nat) (u : FC), (row x)[f]? = some u → W.cell? ((a'.add (i * sz)).add f) = some u.val) len fun i hi => one i _ ((helems i hi).trans (List.getElem?_eq_getElem (by omega)))
    refine ⟨l, ⟨⟨a'.block, a'.off, cap, sz⟩, fun _ => ⟨0, 0, 0, 0⟩⟩, fun x hx => ?_, by omega, fun N L i hi hL => ⟨hi, .inr ⟨a', cap, ?_, ?_, ?_, ?_, ?_, ?_⟩⟩, fun N L => ⟨rfl, hpos, ?_, by simp, ?_⟩, ?_, .inr ⟨_, _, (Prod.mk.inj hdx).1, by simp [hll, hlen]⟩⟩
    · obtain ⟨i, hi⟩ := List.mem_iff_getElem?.1 hx
      exact (hl i x hi).1
    · rw [hll]
    · rw [hll]; exact hle
    · intro c' hc'; cases hc'
    · rw [hL]; simp
    · rw [hL]; simp
    · intro h0
      rw [hL]
      obtain ⟨hs, _⟩ := hspot h0
      cases a'
      simp at hs
      subst hs
      simp [ILoc.at]
    · rw [List.length_map, hll]; exact hle
    · intro i r hr
      rw [List.getElem?_map, Option.map_eq_some_iff] at hr
      obtain ⟨x, hx, rfl⟩ := hr
      refine ⟨hrow x, fun f y hy => ?_⟩
      have hi : i < len := by
        have := (List.getElem?_eq_some_iff.1 hx).1
        omega
      obtain ⟨hs, _⟩ := hspot (by omega)
      rw [← add_at hs i sz f cap]
      exact (hl i x hx).2 f y hy
    · rintro b ⟨hb, rfl⟩
      exact (hspot hb).2

end Go.Mac
end

/- Moves handed in, opened. -/
section
open Go Go.Proofs Go.Mac Go.ChangeShapes Go.WideShapes Go.ChangeAt Go.RowKit
set_option maxRecDepth 100000
namespace Go.Mac

theorem open_moves {H : Type} {enc : TypeId × Value → H} {W : World} {b0 base : Nat} {hd : Bool} {v : Value} {d : DataW H} {ps : List MemPlace}
    (hv : Value.okWide Tryd.prog W .any b0 75 v) (h : DataW.Trod enc Tryd.prog W base (fun _ => true) hd 75 v d ps) :
    ∃ (l : List MoveZ) (loc : Loc), (∀ x ∈ l, True) ∧ l.length ≤ 9223372036854775807 ∧ (∀ (N : Nat) (L : Nat → Loc) (i : Nat), i < N → L i = loc → VA N L (cv (.slc i 0 l.length none false)) v) ∧
      (∀ (N : Nat) (L : Nat → Loc), OR N L W (.rows true 2 (l.map rowMove)) loc) ∧ (∀ b, Ro (.rows true 2 (l.map rowMove)) loc b → b < W.heap.size) ∧
      (l.length = 0 ∨ ∃ es sp : List (DataW H), d = .slice es sp ∧ es.length = l.length) :=
  open_rows rowMove (fun _ => True) 2 Tryd.underlying75 (by kernel_rfl) (by decide) (fun _ => rfl) (fun n cs y hy hl => by
    obtain ⟨c0, c1, rfl⟩ : ∃ c0 c1, cs = [c0, c1] := by
      match cs, hl with
      | [c0, c1], _ => exact ⟨c0, c1, rfl⟩
    obtain ⟨y0, y1, m, _, _, h0, h1⟩ := trod_struct2 Tryd.underlying103 hy
    have e : Tryd.prog.cellsOf 3 = 1 := by kernel_rfl
    have e' : Tryd.prog.cellsOf 4 = 1 := by kernel_rfl
    simp only [e, e', List.drop_zero, List.take_succ_cons, List.take_zero, List.drop_succ_cons] at h0 h1
    obtain ⟨a, e0, _⟩ := DataW.trod_int Tryd.underlying3 h0
    obtain ⟨p, e1, _⟩ := DataW.trod_bool Tryd.underlying4 h1
    simp only [List.cons.injEq, and_true] at e0 e1
    subst e0; subst e1
    exact ⟨⟨a, p⟩, rfl, trivial⟩) hv h

end Go.Mac
end
