/- Scripts handed in, opened. -/
import Derived.Test.YtnkmddcadkcdcaaGOpens
import Derived.Deep.Strs
import Derived.Lib.SmallJoins
import Derived.SizedLaws
open Go Go.Proofs Go.Mac Go.ChangeShapes Go.WideShapes Go.ChangeAt Go.RowKit
set_option maxRecDepth 100000
namespace Go.Mac

theorem open_rowsV {H : Type} {enc : TypeId × Value → H} {W : World} {base : Nat} {hd : Bool} {t e : TypeId} {α : Type} (row : α → List FC) (Q : α → Prop) (sz : Nat) {v : Value} {d : DataW H} {ps : List MemPlace} (ht : Try.prog.underlying t = some (.slice e)) (hsz : Try.prog.cellsOf e = sz) (hpos : 0 < sz)
    (hrow : ∀ x, (row x).length = sz)
    (hel : ∀ (n : Nat) (cs : List Value) (y : DataW H × List MemPlace), DataW.trod enc Try.prog W base (fun _ => true) hd n e cs = some y → cs.length = sz → ∃ x, cs = (row x).map FC.val ∧ Q x)
    (hv : ∃ a len cap, v = Value.slice a len cap) (h : DataW.Trod enc Try.prog W base (fun _ => true) hd t v d ps) :
    ∃ (l : List α) (loc : Loc), (∀ x ∈ l, Q x) ∧ l.length ≤ 9223372036854775807 ∧ (∀ (N : Nat) (L : Nat → Loc) (i : Nat), i < N → L i = loc → VA N L (cv (.slc i 0 l.length none false)) v) ∧
      (∀ (N : Nat) (L : Nat → Loc), OR N L W (.rows true sz (l.map row)) loc) ∧ (∀ b, Ro (.rows true sz (l.map row)) loc b → b < W.heap.size) ∧
      (l.length = 0 ∨ ∃ es sp : List (DataW H), d = .slice es sp ∧ es.length = l.length) := by
  obtain ⟨a, len, cap, rfl⟩ := hv
  obtain ⟨fuel, hf⟩ := h
  rcases DataW.trod_slice ht hf with ⟨h1, _⟩ | ⟨a', len', cap', elems, rest, n, _, h1, hdx, hb, hle, hm, hlen, helems, hrest, _⟩
  · simp only [Value.cells, List.cons.injEq, Value.slice.injEq, and_true] at h1
    obtain ⟨rfl, rfl, rfl⟩ := h1
    refine ⟨[], ⟨⟨0, 0, 0, sz⟩, fun _ => ⟨0, 0, 0, 0⟩⟩, by simp, by simp, fun N L i hi hl => ⟨hi, .inl ⟨rfl, rfl, rfl, fun c' hc' => by cases hc'⟩⟩, fun N L => ⟨rfl, hpos, by simp, by simp, by simp⟩, ?_, .inl rfl⟩
    rintro b ⟨hb, _⟩
    exact absurd rfl hb
  · simp only [Value.cells, List.cons.injEq, Value.slice.injEq, and_true] at h1
    obtain ⟨rfl, rfl, rfl⟩ := h1
    have hm' : cap ≤ 9223372036854775807 := hm
    rw [hsz] at helems hrest
    have one : ∀ (i : Nat) (y : DataW H × List MemPlace), (W.cells? base (a'.add (i * sz)) sz).bind (DataW.trod enc Try.prog W base (fun _ => true) hd n e) = some y →
        ∃ x, Q x ∧ ∀ (f : Nat) (u : FC), (row x)[f]? = some u → W.cell? ((a'.add (i * sz)).add f) = some u.val := by
      intro i y hy
      rw [Option.bind_eq_some_iff] at hy
      obtain ⟨cs, hcs, hy⟩ := hy
      obtain ⟨hl, hg⟩ := cells_get hcs
      obtain ⟨x, hx, hq⟩ := hel n cs y hy hl
      refine ⟨x, hq, fun f u hu => ?_⟩
      have hfl : f < sz := by have := (List.getElem?_eq_some_iff.1 hu).1; rwa [hrow] at this
      rw [hg f hfl, hx, List.getElem?_map, hu]
      rfl
    have hspot : cap ≠ 0 → a'.spot = none ∧ a'.block < W.heap.size := fun h0 => by
      have : ∃ y, (W.cells? base (a'.add (0 * sz)) sz).bind (DataW.trod enc Try.prog W base (fun _ => true) hd n e) = some y := by
        rcases Nat.eq_zero_or_pos len with hl | hl
        · obtain ⟨hrl, hr⟩ := hrest rfl
          have := hr 0 (by omega)
          rw [hl] at this
          exact ⟨_, this.trans (List.getElem?_eq_getElem (by omega))⟩
        · exact ⟨_, (helems 0 hl).trans (List.getElem?_eq_getElem (by omega))⟩
      obtain ⟨y, hy⟩ := this
      obtain ⟨x, _, hx⟩ := one 0 y hy
      obtain ⟨u, hu⟩ : ∃ u, (row x)[0]? = some u := ⟨_, List.getElem?_eq_getElem (by rw [hrow]; exact hpos)⟩
      have := hx 0 u hu
      rw [Nat.zero_mul] at this
      exact heap_of_cell (a := a') this
    obtain ⟨l, hll, hl⟩ := list_of (P := fun i x => Q x ∧ ∀ (f : Nat) (u : FC), (row x)[f]? = some u → W.cell? ((a'.add (i * sz)).add f) = some u.val) len fun i hi => one i _ ((helems i hi).trans (List.getElem?_eq_getElem (by omega)))
    refine ⟨l, ⟨⟨a'.block, a'.off, cap, sz⟩, fun _ => ⟨0, 0, 0, 0⟩⟩, fun x hx => ?_, by omega, fun N L i hi hL => ⟨hi, .inr ⟨a', cap, ?_, ?_, ?_, ?_, ?_, ?_⟩⟩, fun N L => ⟨rfl, hpos, ?_, by simp, ?_⟩, ?_, .inr ⟨_, _, (Prod.mk.inj hdx).1, by simp [hll, hlen]⟩⟩
    · obtain ⟨i, hi⟩ := List.mem_iff_getElem?.1 hx
      exact (hl i x hi).1
    · rw [hll]
    · rw [hll]; exact hle
    · intro c' hc'; cases hc'
    · rw [hL]; simp
    · rw [hL]; simp
    · intro h0
      rw [hL]
      obtain ⟨hs, _⟩ := hspot h0
      cases a'
      simp at hs
      subst hs
      simp [ILoc.at]
    · rw [List.length_map, hll]; exact hle
    · intro i r hr
      rw [List.getElem?_map, Option.map_eq_some_iff] at hr
      obtain ⟨x, hx, rfl⟩ := hr
      refine ⟨hrow x, fun f y hy => ?_⟩
      have hi : i < len := by
        have := (List.getElem?_eq_some_iff.1 hx).1
        omega
      obtain ⟨hs, _⟩ := hspot (by omega)
      rw [← add_at hs i sz f cap]
      exact (hl i x hx).2 f y hy
    · rintro b ⟨hb, rfl⟩
      exact (hspot hb).2

theorem open_script {H : Type} {enc : TypeId × Value → H} {W : World} {b0 base : Nat} {hd : Bool} {v : Value} {d : DataW H} {ps : List MemPlace}
    (hv : Value.okWide Try.prog W .any b0 35 v) (h : DataW.Trod enc Try.prog W base (fun _ => true) hd 35 v d ps) :
    ∃ (k n r : Int) (vm : Value) (d0 d1 d2 d3 : DataW H) (l : List MoveZ) (loc : Loc), v = .agg #[.int .i64 k, .int .i64 n, .int .i64 r, vm] ∧ d = .agg [d0, d1, d2, d3] ∧ (Lit.int .i64 k).wf = true ∧ (Lit.int .i64 n).wf = true ∧ (Lit.int .i64 r).wf = true ∧
      (∀ (N : Nat) (L : Nat → Loc) (i : Nat), i < N → L i = loc → VA N L (cv (.slc i 0 l.length none false)) vm) ∧
      (∀ (N : Nat) (L : Nat → Loc), OR N L W (.rows true 2 (l.map rowMove)) loc) ∧ (∀ b, Ro (.rows true 2 (l.map rowMove)) loc b → b < W.heap.size) ∧
      (l.length = 0 ∨ ∃ es sp : List (DataW H), d3 = .slice es sp ∧ es.length = l.length) := by
  obtain ⟨v0, v1, v2, v3, y0, y1, y2, y3, n, rfl, rfl, _, h0, h1, h2, h3⟩ := Go.Joins.open_agg4 Try.underlying35 (by kernel_rfl) (by kernel_rfl) hv h
  obtain ⟨a, e0, _, wa⟩ := DataW.trod_int Try.underlying3 h0
  obtain ⟨b, e1, _, wb⟩ := DataW.trod_int Try.underlying3 h1
  obtain ⟨c, e2, _, wc⟩ := DataW.trod_int Try.underlying3 h2
  simp only [List.cons.injEq, and_true] at e0 e1 e2
  subst e0; subst e1; subst e2
  have hsl : ∃ a len cap, v3 = Value.slice a len cap := by
    rcases DataW.trod_slice Try.underlying33 h3 with ⟨g, _⟩ | ⟨_, _, _, _, _, _, _, g, _⟩
    · simp only [List.cons.injEq, and_true] at g
      exact ⟨_, _, _, g⟩
    · simp only [List.cons.injEq, and_true] at g
      exact ⟨_, _, _, g⟩
  have h3' : DataW.Trod enc Try.prog W base (fun _ => true) hd 33 v3 y3.1 y3.2 := by
    obtain ⟨a, len, cap, rfl⟩ := hsl
    exact ⟨n, h3⟩
  obtain ⟨l, loc, _, _, g1, g2, g3, g4⟩ := open_rowsV rowMove (fun _ => True) 2 Try.underlying33 (by kernel_rfl) (by decide) (fun _ => rfl) (fun n cs y hy hl => by
    obtain ⟨c0, c1, rfl⟩ : ∃ c0 c1, cs = [c0, c1] := by
      match cs, hl with
      | [c0, c1], _ => exact ⟨c0, c1, rfl⟩
    obtain ⟨y0, y1, m, _, _, h0, h1⟩ := trod_struct2 Try.underlying38 hy
    have e : Try.prog.cellsOf 3 = 1 := by kernel_rfl
    have e' : Try.prog.cellsOf 4 = 1 := by kernel_rfl
    simp only [e, e', List.drop_zero, List.take_succ_cons, List.take_zero, List.drop_succ_cons] at h0 h1
    obtain ⟨a, e0, _⟩ := DataW.trod_int Try.underlying3 h0
    obtain ⟨p, e1, _⟩ := DataW.trod_bool Try.underlying4 h1
    simp only [List.cons.injEq, and_true] at e0 e1
    subst e0; subst e1
    exact ⟨⟨a, p⟩, rfl, trivial⟩) hsl h3'
  exact ⟨a, b, c, v3, y0.1, y1.1, y2.1, y3.1, l, loc, rfl, rfl, wa, wb, wc, g1, g2, g3, g4⟩

theorem VA_script {N : Nat} {L : Nat → Loc} {k n r : Int} {i m : Nat} {vm : Value} (h : VA N L (cv (.slc i 0 m none false)) vm) : VA N L (.p (.agg [.f (.int .i64 k), .f (.int .i64 n), .f (.int .i64 r), .slc i 0 m none false])) (.agg #[.int .i64 k, .int .i64 n, .int .i64 r, vm]) :=
  ⟨[.int .i64 k, .int .i64 n, .int .i64 r, vm], rfl, _, _, rfl, rfl, _, _, rfl, rfl, _, _, rfl, rfl, _, _, rfl, h, rfl⟩

theorem script_sized {H : Type} {ts : List TypeId} {ds : List (DataW H)} (h : (DataW.weightsEach Try.prog ts ds).all (· ≤ reachBytes) = true) {j n : Nat} {d0 d1 d2 d3 : DataW H} (ht : ts[j]? = some 35) (hd : ds[j]? = some (.agg [d0, d1, d2, d3]))
    (hl : n = 0 ∨ ∃ es sp : List (DataW H), d3 = .slice es sp ∧ es.length = n) : n * Try.prog.bytesOf 38 ≤ 140737488355328 := by
  have hall : (DataW.weightsEach Try.prog [3, 3, 3, 33] [d0, d1, d2, d3]).all (· ≤ reachBytes) = true := List.all_eq_true.2 fun x hx => List.all_eq_true.1 h x (DataW.weights_mem_each ht hd x (by
    rw [DataW.weights, Try.underlying35]
    exact hx))
  exact row_sized (j := 3) hall rfl rfl Try.underlying33 hl

end Go.Mac
