/- Texts that belong together; the first of them: A row of structs handed in, opened. -/
import Derived.Test.YtlimhldkkbaohaaDoorQOpen
import Derived.Deep.Strs

/- A row of structs handed in, opened. -/
section
open Go Go.Proofs Go.Mac Go.ChangeShapes Go.WideShapes Go.ChangeAt Go.RowKit
set_option maxRecDepth 100000
namespace Go.Mac

theorem list_of {α : Type} {P : Nat → α → Prop} : ∀ n : Nat, (∀ i, i < n → ∃ x, P i x) → ∃ l : List α, l.length = n ∧ ∀ (i : Nat) (x : α), l[i]? = some x → P i x
  | 0, _ => ⟨[], rfl, fun i x h => by simp at h⟩
  | n + 1, h => by
    obtain ⟨l, hl, hp⟩ := list_of n fun i hi => h i (by omega)
    obtain ⟨x, hx⟩ := h n (by omega)
    refine ⟨l ++ [x], by simp [hl], fun i y hy => ?_⟩
    rcases Nat.lt_or_ge i n with hi | hi
    · rw [List.getElem?_append_left (by omega)] at hy
      exact hp i y hy
    · rw [List.getElem?_append_right (by omega), hl] at hy
      have hi' : i - n = 0 := by
        have := (List.getElem?_eq_some_iff.1 hy).1
        simp at this
        omega
      rw [hi'] at hy
      simp at hy
      subst hy
      have : i = n := by omega
      subst this
      exact hx

theorem cells_get {w : World} {base n : Nat} {a : Addr} {cs : List Value} (h : w.cells? base a n = some cs) : cs.length = n ∧ ∀ f, f < n → w.cell? (a.add f) = cs[f]? := by
  unfold World.cells? at h
  split at h
  · exact ⟨by simpa using mapM_some_length h, fun f hf => mapM_some_get h f f (by simp [hf])⟩
  · cases h

theorem add_at {a : Addr} (h : a.spot = none) (i sz f cap : Nat) : (a.add (i * sz)).add f = (⟨a.block, a.off, cap, sz⟩ : ILoc).at i f := by
  cases a
  simp at h
  subst h
  simp only [Addr.add, ILoc.at]
  split <;> split <;> simp_all

theorem open_rows {H : Type} {enc : TypeId × Value → H} {W : World} {b0 base : Nat} {hd : Bool} {t e : TypeId} {α : Type} (row : α → List FC) (Q : α → Prop) (sz : Nat) {v : Value} {d : DataW H} {ps : List MemPlace} (ht : Tryd.prog.underlying t = some (.slice e)) (hsz : Tryd.prog.cellsOf e = sz) (hpos : 0 < sz)
    (hrow : ∀ x, (row x).length = sz)
    (hel : ∀ (n : Nat) (cs : List Value) (y : DataW H × List MemPlace), DataW.trod enc Tryd.prog W base (fun _ => true) hd n e cs = some y → cs.length = sz → ∃ x, cs = (row x).map FC.val ∧ Q x)
    (hv : Value.okWide Tryd.prog W .any b0 t v) (h : DataW.Trod enc Tryd.prog W base (fun _ => true) hd t v d ps) :
    ∃ (l : List α) (loc : Loc), (∀ x ∈ l, Q x) ∧ l.length ≤ 9223372036854775807 ∧ (∀ (N : Nat) (L : Nat → Loc) (i : Nat), i < N → L i = loc → VA N L (cv (.slc i 0 l.length none false)) v) ∧
      (∀ (N : Nat) (L : Nat → Loc), OR N L W (.rows true sz (l.map row)) loc) ∧ (∀ b, Ro (.rows true sz (l.map row)) loc b → b < W.heap.size) ∧
      (l.length = 0 ∨ ∃ es sp : List (DataW H), d = .slice es sp ∧ es.length = l.length) := by
  obtain ⟨a, len, cap, rfl⟩ := okWide_slice ht hv
  obtain ⟨fuel, hf⟩ := h
  rcases DataW.trod_slice ht hf with ⟨h1, _⟩ | ⟨a', len', cap', elems, rest, n, _, h1, hdx, hb, hle, hm, hlen, helems, hrest, _⟩
  · simp only [Value.cells, List.cons.injEq, Value.slice.injEq, and_true] at h1
    obtain ⟨rfl, rfl, rfl⟩ := h1
    refine ⟨[], ⟨⟨0, 0, 0, sz⟩, fun _ => ⟨0, 0, 0, 0⟩⟩, by simp, by simp, fun N L i hi hl => ⟨hi, .inl ⟨rfl, rfl, rfl, fun c' hc' => by cases hc'⟩⟩, fun N L => ⟨rfl, hpos, by simp, by simp, by simp⟩, ?_, .inl rfl⟩
    rintro b ⟨hb, _⟩
    exact absurd rfl hb
  · simp only [Value.cells, List.cons.injEq, Value.slice.injEq, and_true] at h1
    obtain ⟨rfl, rfl, rfl⟩ := h1
    have hm' : cap ≤ 9223372036854775807 := hm
    rw [hsz] at helems hrest
    have one : ∀ (i : Nat) (y : DataW H × List MemPlace), (W.cells? base (a'.add (i * sz)) sz).bind (DataW.trod enc Tryd.prog W base (fun _ => true) hd n e) = some y →
        ∃ x, Q x ∧ ∀ (f : Nat) (u : FC), (row x)[f]? = some u → W.cell? ((a'.add (i * sz)).add f) = some u.val := by
      intro i y hy
      rw [Option.bind_eq_some_iff] at hy
      obtain ⟨cs, hcs, hy⟩ := hy
      obtain ⟨hl, hg⟩ := cells_get hcs
      obtain ⟨x, hx, hq⟩ := hel n cs y hy hl
      refine ⟨x, hq, fun f u hu => ?_⟩
      have hfl : f < sz := by have := (List.getElem?_eq_some_iff.1 hu).1; rwa [hrow] at this
      rw [hg f hfl, hx, List.getElem?_map, hu]
      rfl
    have hspot : cap ≠ 0 → a'.spot = none ∧ a'.block < W.heap.size := fun h0 => by
      have : ∃ y, (W.cells? base (a'.add (0 * sz)) sz).bind (DataW.trod enc Tryd.prog W base (fun _ => true) hd n e) = some y := by
        rcases Nat.eq_zero_or_pos len with hl | hl
        · obtain ⟨hrl, hr⟩ := hrest rfl
          have := hr 0 (by omega)
          rw [hl] at this
          exact ⟨_, this.trans (List.getElem?_eq_getElem (by omega))⟩
        · exact ⟨_, (helems 0 hl).trans (List.getElem?_eq_getElem (by omega))⟩
      obtain ⟨y, hy⟩ := this
      obtain ⟨x, _, hx⟩ := one 0 y hy
      obtain ⟨u, hu⟩ : ∃ u, (row x)[0]? = some u := ⟨_, List.getElem?_eq_getElem (by rw [hrow]; exact hpos)⟩
      have := hx 0 u hu
      rw [Nat.zero_mul] at this
      exact heap_of_cell (a := a') this
    obtain ⟨l, hll, hl⟩ := list_of (P := fun i x => Q x ∧ ∀ (f : Nat) (u : FC), (row x)[f]? = some u → W.cell? ((a'.add (i * sz)).add f) = some u.val) len fun i hi => one i _ ((helems i hi).trans (List.getElem?_eq_getElem (by omega)))
    refine ⟨l, ⟨⟨a'.block, a'.off, cap, sz⟩, fun _ => ⟨0, 0, 0, 0⟩⟩, fun x hx => ?_, by omega, fun N L i hi hL => ⟨hi, .inr ⟨a', cap, ?_, ?_, ?_, ?_, ?_, ?_⟩⟩, fun N L => ⟨rfl, hpos, ?_, by simp, ?_⟩, ?_, .inr ⟨_, _, (Prod.mk.inj hdx).1, by simp [hll, hlen]⟩⟩
    · obtain ⟨i, hi⟩ := List.mem_iff_getElem?.1 hx
      exact (hl i x hi).1
    · rw [hll]
    · rw [hll]; exact hle
    · intro c' hc'; cases hc'
    · rw [hL]; simp
    · rw [hL]; simp
    · intro h0
      rw [hL]
      obtain ⟨hs, _⟩ := hspot h0
      cases a'
      simp at hs
      subst hs
      simp [ILoc.at]
    · rw [List.length_map, hll]; exact hle
    · intro i r hr
      rw [List.getElem?_map, Option.map_eq_some_iff] at hr
      obtain ⟨x, hx, rfl⟩ := hr
      refine ⟨hrow x, fun f y hy => ?_⟩
      have hi : i < len := by
        have := (List.getElem?_eq_some_iff.1 hx).1
        omega
      obtain ⟨hs, _⟩ := hspot (by omega)
      rw [← add_at hs i sz f cap]
      exact (hl i x hx).2 f y hy
    · rintro b ⟨hb, rfl⟩
      exact (hspot hb).2

end Go.Mac
end

/- Moves handed in, opened. -/
section
open Go Go.Proofs Go.Mac Go.ChangeShapes Go.WideShapes Go.ChangeAt Go.RowKit
set_option maxRecDepth 100000
namespace Go.Mac

theorem open_moves {H : Type} {enc : TypeId × Value → H} {W : World} {b0 base : Nat} {hd : Bool} {v : Value} {d : DataW H} {ps : List MemPlace}
    (hv : Value.okWide Tryd.prog W .any b0 75 v) (h : DataW.Trod enc Tryd.prog W base (fun _ => true) hd 75 v d ps) :
    ∃ (l : List MoveZ) (loc : Loc), (∀ x ∈ l, True) ∧ l.length ≤ 9223372036854775807 ∧ (∀ (N : Nat) (L : Nat → Loc) (i : Nat), i < N → L i = loc → VA N L (cv (.slc i 0 l.length none false)) v) ∧
      (∀ (N : Nat) (L : Nat → Loc), OR N L W (.rows true 2 (l.map rowMove)) loc) ∧ (∀ b, Ro (.rows true 2 (l.map rowMove)) loc b → b < W.heap.size) ∧
      (l.length = 0 ∨ ∃ es sp : List (DataW H), d = .slice es sp ∧ es.length = l.length) :=
  open_rows rowMove (fun _ => True) 2 Tryd.underlying75 (by kernel_rfl) (by decide) (fun _ => rfl) (fun n cs y hy hl => by
    obtain ⟨c0, c1, rfl⟩ : ∃ c0 c1, cs = [c0, c1] := by
      match cs, hl with
      | [c0, c1], _ => exact ⟨c0, c1, rfl⟩
    obtain ⟨y0, y1, m, _, _, h0, h1⟩ := trod_struct2 Tryd.underlying103 hy
    have e : Tryd.prog.cellsOf 3 = 1 := by kernel_rfl
    have e' : Tryd.prog.cellsOf 4 = 1 := by kernel_rfl
    simp only [e, e', List.drop_zero, List.take_succ_cons, List.take_zero, List.drop_succ_cons] at h0 h1
    obtain ⟨a, e0, _⟩ := DataW.trod_int Tryd.underlying3 h0
    obtain ⟨p, e1, _⟩ := DataW.trod_bool Tryd.underlying4 h1
    simp only [List.cons.injEq, and_true] at e0 e1
    subst e0; subst e1
    exact ⟨⟨a, p⟩, rfl, trivial⟩) hv h

end Go.Mac
end

/- Rows of rows handed in, opened. -/
section
open Go Go.Proofs Go.Mac Go.ChangeShapes Go.WideShapes Go.ChangeAt Go.RowKit
set_option maxRecDepth 100000
namespace Go.Mac

theorem open_rowsC {H : Type} {enc : TypeId × Value → H} {W : World} {base : Nat} {hd : Bool} {t e : TypeId} {α : Type} (row : α → List FC) (Q : α → Prop) (sz : Nat) {v : Value} {d : DataW H} {ps : List MemPlace} (ht : Tryd.prog.underlying t = some (.slice e)) (hsz : Tryd.prog.cellsOf e = sz) (hpos : 0 < sz)
    (hrow : ∀ x, (row x).length = sz)
    (hel : ∀ (n : Nat) (cs : List Value) (y : DataW H × List MemPlace), DataW.trod enc Tryd.prog W base (fun _ => true) hd n e cs = some y → cs.length = sz → ∃ x, cs = (row x).map FC.val ∧ Q x)
    (hv : ∃ a len cap, v = .slice a len cap) (h : DataW.Trod enc Tryd.prog W base (fun _ => true) hd t v d ps) :
    ∃ (l : List α) (loc : Loc), (∀ x ∈ l, Q x) ∧ l.length ≤ 9223372036854775807 ∧ (∀ (N : Nat) (L : Nat → Loc) (i : Nat), i < N → L i = loc → VA N L (cv (.slc i 0 l.length none false)) v) ∧
      (∀ (N : Nat) (L : Nat → Loc), OR N L W (.rows true sz (l.map row)) loc) ∧ (∀ b, Ro (.rows true sz (l.map row)) loc b → b < W.heap.size) ∧
      (l.length = 0 ∨ ∃ es sp : List (DataW H), d = .slice es sp ∧ es.length = l.length) := by
  obtain ⟨a, len, cap, rfl⟩ := hv
  obtain ⟨fuel, hf⟩ := h
  rcases DataW.trod_slice ht hf with ⟨h1, _⟩ | ⟨a', len', cap', elems, rest, n, _, h1, hdx, hb, hle, hm, hlen, helems, hrest, _⟩
  · simp only [Value.cells, List.cons.injEq, Value.slice.injEq, and_true] at h1
    obtain ⟨rfl, rfl, rfl⟩ := h1
    refine ⟨[], ⟨⟨0, 0, 0, sz⟩, fun _ => ⟨0, 0, 0, 0⟩⟩, by simp, by simp, fun N L i hi hl => ⟨hi, .inl ⟨rfl, rfl, rfl, fun c' hc' => by cases hc'⟩⟩, fun N L => ⟨rfl, hpos, by simp, by simp, by simp⟩, ?_, .inl rfl⟩
    rintro b ⟨hb, _⟩
    exact absurd rfl hb
  · simp only [Value.cells, List.cons.injEq, Value.slice.injEq, and_true] at h1
    obtain ⟨rfl, rfl, rfl⟩ := h1
    have hm' : cap ≤ 9223372036854775807 := hm
    rw [hsz] at helems hrest
    have one : ∀ (i : Nat) (y : DataW H × List MemPlace), (W.cells? base (a'.add (i * sz)) sz).bind (DataW.trod enc Tryd.prog W base (fun _ => true) hd n e) = some y →
        ∃ x, Q x ∧ ∀ (f : Nat) (u : FC), (row x)[f]? = some u → W.cell? ((a'.add (i * sz)).add f) = some u.val := by
      intro i y hy
      rw [Option.bind_eq_some_iff] at hy
      obtain ⟨cs, hcs, hy⟩ := hy
      obtain ⟨hl, hg⟩ := cells_get hcs
      obtain ⟨x, hx, hq⟩ := hel n cs y hy hl
      refine ⟨x, hq, fun f u hu => ?_⟩
      have hfl : f < sz := by have := (List.getElem?_eq_some_iff.1 hu).1; rwa [hrow] at this
      rw [hg f hfl, hx, List.getElem?_map, hu]
      rfl
    have hspot : cap ≠ 0 → a'.spot = none ∧ a'.block < W.heap.size := fun h0 => by
      have : ∃ y, (W.cells? base (a'.add (0 * sz)) sz).bind (DataW.trod enc Tryd.prog W base (fun _ => true) hd n e) = some y := by
        rcases Nat.eq_zero_or_pos len with hl | hl
        · obtain ⟨hrl, hr⟩ := hrest rfl
          have := hr 0 (by omega)
          rw [hl] at this
          exact ⟨_, this.trans (List.getElem?_eq_getElem (by omega))⟩
        · exact ⟨_, (helems 0 hl).trans (List.getElem?_eq_getElem (by omega))⟩
      obtain ⟨y, hy⟩ := this
      obtain ⟨x, _, hx⟩ := one 0 y hy
      obtain ⟨u, hu⟩ : ∃ u, (row x)[0]? = some u := ⟨_, List.getElem?_eq_getElem (by rw [hrow]; exact hpos)⟩
      have := hx 0 u hu
      rw [Nat.zero_mul] at this
      exact heap_of_cell (a := a') this
    obtain ⟨l, hll, hl⟩ := list_of (P := fun i x => Q x ∧ ∀ (f : Nat) (u : FC), (row x)[f]? = some u → W.cell? ((a'.add (i * sz)).add f) = some u.val) len fun i hi => one i _ ((helems i hi).trans (List.getElem?_eq_getElem (by omega)))
    refine ⟨l, ⟨⟨a'.block, a'.off, cap, sz⟩, fun _ => ⟨0, 0, 0, 0⟩⟩, fun x hx => ?_, by omega, fun N L i hi hL => ⟨hi, .inr ⟨a', cap, ?_, ?_, ?_, ?_, ?_, ?_⟩⟩, fun N L => ⟨rfl, hpos, ?_, by simp, ?_⟩, ?_, .inr ⟨_, _, (Prod.mk.inj hdx).1, by simp [hll, hlen]⟩⟩
    · obtain ⟨i, hi⟩ := List.mem_iff_getElem?.1 hx
      exact (hl i x hi).1
    · rw [hll]
    · rw [hll]; exact hle
    · intro c' hc'; cases hc'
    · rw [hL]; simp
    · rw [hL]; simp
    · intro h0
      rw [hL]
      obtain ⟨hs, _⟩ := hspot h0
      cases a'
      simp at hs
      subst hs
      simp [ILoc.at]
    · rw [List.length_map, hll]; exact hle
    · intro i r hr
      rw [List.getElem?_map, Option.map_eq_some_iff] at hr
      obtain ⟨x, hx, rfl⟩ := hr
      refine ⟨hrow x, fun f y hy => ?_⟩
      have hi : i < len := by
        have := (List.getElem?_eq_some_iff.1 hx).1
        omega
      obtain ⟨hs, _⟩ := hspot (by omega)
      rw [← add_at hs i sz f cap]
      exact (hl i x hx).2 f y hy
    · rintro b ⟨hb, rfl⟩
      exact (hspot hb).2

theorem open_rows2 {H : Type} {enc : TypeId × Value → H} {W : World} {b0 base : Nat} {hd : Bool} {t t1 e : TypeId} {α : Type} (row : α → List FC) (Q : α → Prop) (sz : Nat) {v : Value} {d : DataW H} {ps : List MemPlace} (ht0 : Tryd.prog.underlying t = some (.slice t1)) (hs0 : Tryd.prog.cellsOf t1 = 1)
    (ht : Tryd.prog.underlying t1 = some (.slice e)) (hsz : Tryd.prog.cellsOf e = sz) (hpos : 0 < sz) (hrow : ∀ x, (row x).length = sz)
    (hel : ∀ (n : Nat) (cs : List Value) (y : DataW H × List MemPlace), DataW.trod enc Tryd.prog W base (fun _ => true) hd n e cs = some y → cs.length = sz → ∃ x, cs = (row x).map FC.val ∧ Q x)
    (hv : Value.okWide Tryd.prog W .any b0 t v) (h : DataW.Trod enc Tryd.prog W base (fun _ => true) hd t v d ps) :
    ∃ (l : List (List α)) (loc : Loc), (∀ xs ∈ l, ∀ x ∈ xs, Q x) ∧ l.length ≤ 9223372036854775807 ∧ (∀ xs ∈ l, xs.length ≤ 9223372036854775807) ∧ (∀ (N : Nat) (L : Nat → Loc) (i : Nat), i < N → L i = loc → VA N L (cv (.slc i 0 l.length none false)) v) ∧
      (∀ (N : Nat) (L : Nat → Loc), OR N L W (.rows2 true sz (l.map fun xs => xs.map row)) loc) ∧ (∀ b, Ro (.rows2 true sz (l.map fun xs => xs.map row)) loc b → b < W.heap.size) ∧
      (l.length = 0 ∨ ∃ es sp : List (DataW H), d = .slice es sp ∧ es.length = l.length) := by
  obtain ⟨a, len, cap, rfl⟩ := okWide_slice ht0 hv
  obtain ⟨fuel, hf⟩ := h
  rcases DataW.trod_slice ht0 hf with ⟨h1, _⟩ | ⟨a', len', cap', elems, rest, n, _, h1, hdx, hb, hle, hm, hlen, helems, hrest, _⟩
  · simp only [Value.cells, List.cons.injEq, Value.slice.injEq, and_true] at h1
    obtain ⟨rfl, rfl, rfl⟩ := h1
    refine ⟨[], ⟨⟨0, 0, 0, 1⟩, fun _ => ⟨0, 0, 0, 0⟩⟩, by simp, by simp, by simp, fun N L i hi hl => ⟨hi, .inl ⟨rfl, rfl, rfl, fun c' hc' => by cases hc'⟩⟩, fun N L => ⟨rfl, by simp, by simp, by simp, by simp⟩, ?_, .inl rfl⟩
    rintro b (⟨hb, _⟩ | ⟨i, hi, _⟩)
    · exact absurd rfl hb
    · simp at hi
  · simp only [Value.cells, List.cons.injEq, Value.slice.injEq, and_true] at h1
    obtain ⟨rfl, rfl, rfl⟩ := h1
    have hm' : cap ≤ 9223372036854775807 := hm
    rw [hs0] at helems hrest
    have one : ∀ (i : Nat) (y : DataW H × List MemPlace), (W.cells? base (a'.add (i * 1)) 1).bind (DataW.trod enc Tryd.prog W base (fun _ => true) hd n t1) = some y →
        ∃ p : List α × Loc, (∀ x ∈ p.1, Q x) ∧ p.1.length ≤ 9223372036854775807 ∧ (∃ u, W.cell? (a'.add (i * 1)) = some u ∧ Hdr p.2.h 0 p.1.length none false u) ∧ RowsAt W false sz (p.1.map row) p.2.h ∧ (p.2.h.cap ≠ 0 → p.2.h.blk < W.heap.size) := by
      intro i y hy
      rw [Option.bind_eq_some_iff] at hy
      obtain ⟨cs, hcs, hy⟩ := hy
      obtain ⟨hl, hg⟩ := cells_get hcs
      obtain ⟨u, rfl⟩ : ∃ u, cs = [u] := by
        match cs, hl with
        | [u], _ => exact ⟨u, rfl⟩
      have hu := hg 0 (by decide)
      obtain ⟨y1, y2⟩ := y
      have hs : ∃ a len cap, u = .slice a len cap := by
        rcases DataW.trod_slice ht hy with ⟨h1, _⟩ | ⟨a2, len2, cap2, _, _, _, _, h1, _⟩
        · simp only [List.cons.injEq, and_true] at h1; exact ⟨_, _, _, h1⟩
        · simp only [List.cons.injEq, and_true] at h1; exact ⟨_, _, _, h1⟩
      obtain ⟨a2, len2, cap2, rfl⟩ := hs
      obtain ⟨l, loc, k1, k2, k3, k4, k5, _⟩ := open_rowsC row Q sz ht hsz hpos hrow hel ⟨a2, len2, cap2, rfl⟩ ⟨n, hy⟩
      have hva : VA 1 (fun _ => loc) (cv (.slc 0 0 l.length none false)) (.slice a2 len2 cap2) := k3 1 (fun _ => loc) 0 (by decide) rfl
      refine ⟨(l, loc), k1, k2, ⟨_, ?_, hva.2⟩, k4 1 (fun _ => loc), fun hc => k5 _ ⟨hc, rfl⟩⟩
      have : (a'.add (i * 1)).add 0 = a'.add (i * 1) := rfl
      rw [this] at hu
      exact hu
    have hspot : cap ≠ 0 → a'.spot = none ∧ a'.block < W.heap.size := fun h0 => by
      have : ∃ y, (W.cells? base (a'.add (0 * 1)) 1).bind (DataW.trod enc Tryd.prog W base (fun _ => true) hd n t1) = some y := by
        rcases Nat.eq_zero_or_pos len with hl | hl
        · obtain ⟨hrl, hr⟩ := hrest rfl
          have := hr 0 (by omega)
          rw [hl] at this
          exact ⟨_, this.trans (List.getElem?_eq_getElem (by omega))⟩
        · exact ⟨_, (helems 0 hl).trans (List.getElem?_eq_getElem (by omega))⟩
      obtain ⟨y, hy⟩ := this
      obtain ⟨p, _, _, ⟨u, hu, _⟩, _⟩ := one 0 y hy
      exact heap_of_cell (a := a') hu
    obtain ⟨l, hll, hl⟩ := list_of (P := fun i (p : List α × Loc) => (∀ x ∈ p.1, Q x) ∧ p.1.length ≤ 9223372036854775807 ∧ (∃ u, W.cell? (a'.add (i * 1)) = some u ∧ Hdr p.2.h 0 p.1.length none false u) ∧ RowsAt W false sz (p.1.map row) p.2.h ∧ (p.2.h.cap ≠ 0 → p.2.h.blk < W.heap.size)) len fun i hi => one i _ ((helems i hi).trans (List.getElem?_eq_getElem (by omega)))
    have hlm : (l.map (·.1)).length = len := by rw [List.length_map, hll]
    have hin : ∀ (i : Nat) (p : List α × Loc), l[i]? = some p → ((l.map (·.2.h)).getD i ⟨0, 0, 0, 0⟩) = p.2.h := fun i p hp => by
      rw [List.getD_eq_getElem?_getD, List.getElem?_map, hp]; rfl
    refine ⟨l.map (·.1), ⟨⟨a'.block, a'.off, cap, 1⟩, fun i => (l.map (·.2.h)).getD i ⟨0, 0, 0, 0⟩⟩, fun xs hxs => ?_, by omega, fun xs hxs => ?_, fun N L i hi hL => ⟨hi, .inr ⟨a', cap, ?_, ?_, ?_, ?_, ?_, ?_⟩⟩, fun N L => ⟨rfl, ?_, by simp, ?_, by simp⟩, ?_, .inr ⟨_, _, (Prod.mk.inj hdx).1, by rw [hlm]; simp [hlen]⟩⟩
    · obtain ⟨p, hp, rfl⟩ := List.mem_map.1 hxs
      obtain ⟨i, hi⟩ := List.mem_iff_getElem?.1 hp
      exact (hl i p hi).1
    · obtain ⟨p, hp, rfl⟩ := List.mem_map.1 hxs
      obtain ⟨i, hi⟩ := List.mem_iff_getElem?.1 hp
      exact (hl i p hi).2.1
    · rw [hlm]
    · rw [hlm]; exact hle
    · intro c' hc'; cases hc'
    · rw [hL]; simp
    · rw [hL]; simp
    · intro h0
      rw [hL]
      obtain ⟨hs, _⟩ := hspot h0
      cases a'
      simp at hs
      subst hs
      simp [ILoc.at]
    · rw [List.length_map, hlm]; exact hle
    · intro i rs hi
      rw [List.map_map, List.getElem?_map, Option.map_eq_some_iff] at hi
      obtain ⟨p, hp, rfl⟩ := hi
      obtain ⟨_, _, ⟨u, hu, hh⟩, hr, _⟩ := hl i p hp
      have hil : i < len := by
        have := (List.getElem?_eq_some_iff.1 hp).1
        omega
      obtain ⟨hs, _⟩ := hspot (by omega)
      dsimp only
      rw [hin i p hp]
      refine ⟨hr, u, ?_, ?_⟩
      · rw [← add_at hs i 1 0 cap]
        exact hu
      · show Hdr p.2.h 0 (p.1.map row).length none false u
        rw [List.length_map]
        exact hh
    · rintro b (⟨hb, rfl⟩ | ⟨i, hi, hc, rfl⟩)
      · exact (hspot hb).2
      · rw [List.length_map, hlm] at hi
        obtain ⟨p, hp⟩ : ∃ p, l[i]? = some p := ⟨_, List.getElem?_eq_getElem (by omega)⟩
        dsimp only at hc ⊢
        rw [hin i p hp] at hc ⊢
        exact (hl i p hp).2.2.2.2 hc

end Go.Mac
end

/- Rows of rows of numbers handed in, opened. -/
section
open Go Go.Proofs Go.Mac Go.ChangeShapes Go.WideShapes Go.ChangeAt Go.RowKit
set_option maxRecDepth 100000
namespace Go.Mac

theorem open_ints2 {H : Type} {enc : TypeId × Value → H} {W : World} {b0 base : Nat} {hd : Bool} {v : Value} {d : DataW H} {ps : List MemPlace}
    (hv : Value.okWide Tryd.prog W .any b0 27 v) (h : DataW.Trod enc Tryd.prog W base (fun _ => true) hd 27 v d ps) :
    ∃ (l : List (List Int)) (loc : Loc), (∀ xs ∈ l, ∀ x ∈ xs, (Lit.int .i64 x).wf = true) ∧ l.length ≤ 9223372036854775807 ∧ (∀ xs ∈ l, xs.length ≤ 9223372036854775807) ∧ (∀ (N : Nat) (L : Nat → Loc) (i : Nat), i < N → L i = loc → VA N L (cv (.slc i 0 l.length none false)) v) ∧
      (∀ (N : Nat) (L : Nat → Loc), OR N L W (.rows2 true 1 (l.map fun xs => xs.map rowZ)) loc) ∧ (∀ b, Ro (.rows2 true 1 (l.map fun xs => xs.map rowZ)) loc b → b < W.heap.size) ∧
      (l.length = 0 ∨ ∃ es sp : List (DataW H), d = .slice es sp ∧ es.length = l.length) :=
  open_rows2 rowZ (fun x => (Lit.int .i64 x).wf = true) 1 Tryd.underlying27 (by kernel_rfl) Tryd.underlying22 (by kernel_rfl) (by decide) (fun _ => rfl) (fun n cs y hy hl => by
    obtain ⟨x, e0, e1⟩ := DataW.trod_int Tryd.underlying3 hy
    subst e0
    exact ⟨x, rfl, e1.2⟩) hv h

end Go.Mac
end
