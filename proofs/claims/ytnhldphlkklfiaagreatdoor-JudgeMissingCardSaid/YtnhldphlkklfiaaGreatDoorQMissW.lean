/- Who didn't come is missed: the walk. -/
import Derived.Test.YtnhldphlkklfiaaGreatDoorQMissing
import Derived.Test.YtnhldphlkklfiaaGreatDoorQDanceL
open Go Go.Proofs Go.Mac
set_option maxRecDepth 100000
namespace Go.Mac

section
variable {K : AV → List Nat → List PO → Prop}

theorem delEv {pre post : List EvZ} {x : EvZ} {nn : Bool} (hn : pre.length + post.length + 1 < 1000000)
    (h : K (cv (.slc 0 0 (pre.length + post.length) none true)) [] [.rows false 4 ((pre ++ post ++ [(⟨0, 0, 0, 0⟩ : EvZ)]).map rowEv)]) :
    Does Tryz.prog 41 [cv (.slc 0 0 (pre.length + post.length + 1) none nn), i64 pre.length, i64 ((pre.length + 1 : Nat) : Int)] [.rows false 4 ((pre ++ x :: post).map rowEv)] K := by
  refine does Tryz.func41 rfl (by decide) ?_
  refine And.intro (by omega) (And.intro (by omega) (And.intro (by omega) (And.intro (by omega) ?_)))
  refine brc_intro (fun h => absurd h (by simp; omega)) (fun _ => ?_)
  refine SS.drawR follows (by decide) ?_
  refine Or.inl (And.intro (by omega) (And.intro (by omega) ?_))
  refine Or.inl (And.intro (by omega) (And.intro (by omega) ?_))
  refine And.intro (by simp; omega) ?_
  have hnn : (nn || Nat.blt 0 (pre.length + post.length + 1)) = true := by simp [Nat.blt]
  have hx : (((pre ++ x :: post).map rowEv).drop (0 + ((pre.length + 1 : Nat) : Int).toNat)).take (pre.length + post.length + 1 - ((pre.length + 1 : Nat) : Int).toNat) = post.map rowEv := by
    have e0 : pre ++ x :: post = (pre ++ [x]) ++ post := by simp
    rw [← List.map_drop, ← List.map_take, e0, show 0 + ((pre.length + 1 : Nat) : Int).toNat = (pre ++ [x]).length by simp, List.drop_left, List.take_of_length_le (by omega)]
  rw [hx]
  refine Or.inr (And.intro rfl (And.intro hnn (And.intro ?_ ?_)))
  · simp
  obtain ⟨y, hy⟩ : ∃ y, (x :: post).drop post.length = [y] := by
    have : ((x :: post).drop post.length).length = 1 := by simp
    match h : (x :: post).drop post.length with
    | [] => simp [h] at this
    | [y] => exact ⟨y, rfl⟩
    | _ :: _ :: _ => simp [h] at this
  have hr : ((pre ++ x :: post).map rowEv).take (0 + 0 + ((pre.length : Int).toNat - 0)) ++ post.map rowEv ++ ((pre ++ x :: post).map rowEv).drop (0 + 0 + ((pre.length : Int).toNat - 0) + (post.map rowEv).length) = (pre ++ post ++ [y]).map rowEv := by
    rw [← List.map_take, ← List.map_drop, ← List.map_append, ← List.map_append]
    congr 1
    have e1 : 0 + 0 + ((pre.length : Int).toNat - 0) = pre.length := by omega
    rw [e1, List.take_left, List.length_map, ← List.drop_drop, List.drop_left, hy]
  rw [hr]
  refine Or.inr (And.intro rfl (And.intro hnn (And.intro (by omega) (And.intro (by omega) (And.intro ?_ (And.intro ?_ ?_))))))
  · simp
    omega
  · simp
    omega
  refine And.intro ?_ ?_
  · simp
    omega
  have hn' : pre.length + post.length = (pre.length : Int).toNat - 0 + (post.map rowEv).length := by simp
  have hr' : (pre ++ post ++ [(⟨0, 0, 0, 0⟩ : EvZ)]).map rowEv = ((pre ++ post ++ [y]).map rowEv).take (0 + 0 + (((pre.length : Int).toNat - 0 + (post.map rowEv).length : Nat) : Int).toNat) ++ List.replicate (((pre.length + post.length + 1 : Nat) : Int).toNat - (((pre.length : Int).toNat - 0 + (post.map rowEv).length : Nat) : Int).toNat) [.int .i64 0, .int .i64 0, .int .i64 0, .int .i64 0] ++
      ((pre ++ post ++ [y]).map rowEv).drop (0 + 0 + (((pre.length : Int).toNat - 0 + (post.map rowEv).length : Nat) : Int).toNat + (((pre.length + post.length + 1 : Nat) : Int).toNat - (((pre.length : Int).toNat - 0 + (post.map rowEv).length : Nat) : Int).toNat)) := by
    have e1 : (((pre.length : Int).toNat - 0 + (post.map rowEv).length : Nat) : Int).toNat = (pre ++ post).length := by
      simp
      omega
    have e2 : ((pre.length + post.length + 1 : Nat) : Int).toNat - (pre ++ post).length = 1 := by simp; omega
    rw [e1, e2, Nat.add_zero, Nat.zero_add, ← List.map_take, ← List.map_drop, List.take_left, ← List.drop_drop, List.drop_left]
    simp
  rw [hn', hr', ← hnn] at h
  exact h

theorem delEvAt {l : List EvZ} {i n : Nat} {x : EvZ} {nn : Bool} (hl : l.length = n) (hx : l[i]? = some x) (hn : n < 1000000)
    (h : K (cv (.slc 0 0 (n - 1) none true)) [] [.rows false 4 ((l.take i ++ l.drop (i + 1) ++ [(⟨0, 0, 0, 0⟩ : EvZ)]).map rowEv)]) :
    Does Tryz.prog 41 [cv (.slc 0 0 n none nn), i64 i, i64 ((i + 1 : Nat) : Int)] [.rows false 4 (l.map rowEv)] K := by
  have hi := (List.getElem?_eq_some_iff.1 hx).1
  have e : l = l.take i ++ x :: l.drop (i + 1) := by
    rw [← (List.getElem?_eq_some_iff.1 hx).2, ← List.drop_eq_getElem_cons hi, List.take_append_drop]
  have e1 : (l.take i).length = i := by simp; omega
  have e2 : n = (l.take i).length + (l.drop (i + 1)).length + 1 := by simp; omega
  generalize l.take i = pre at *
  generalize l.drop (i + 1) = post at *
  subst e
  subst e1
  subst e2
  exact delEv (by omega) h

theorem cloneEv0 {l : List EvZ} {n : Nat} {ro : Bool} (hl : l.length = n) (h0 : 0 < n) (hn : n < 1000000) (h : K (cv (.slc 1 0 n none true)) [] [.rows ro 4 (l.map rowEv), .rows false 4 (l.map rowEv)]) :
    Does Tryz.prog 42 [cv (.slc 0 0 n none false)] [.rows ro 4 (l.map rowEv)] K := by
  subst hl
  exact Does.nil0 (fun h => absurd h (by omega)) (cloneEvs hn h)

/-- Does somebody go of that round from there on? -/
def laterZ (l : List EvZ) (v : Int) : Bool := l.any fun e => e.a == 2 && e.v == v

theorem laterIdx {el : List EvZ} {i n o m : Nat} {x : EvZ} {nn nn2 : Bool} {c : Option Nat} (hn : el.length = n) (hb : n ≤ 1000000) (hx : el[i]? = some x) (ho : o + m = n)
    (h1 : laterZ (el.drop o) x.v = true → ∀ j : Nat, j < 1000000 → K (i64 j) [] [.rows false 4 (el.map rowEv), .one [.slc 0 0 n none nn2], .one [.f (.int .i64 i)]])
    (h0 : laterZ (el.drop o) x.v = false → K (i64 (-1)) [] [.rows false 4 (el.map rowEv), .one [.slc 0 0 n none nn2], .one [.f (.int .i64 i)]]) :
    Does Tryz.prog 66 [cv (.slc 0 o m c nn), cv (.func 39 [1, 2])] [.rows false 4 (el.map rowEv), .one [.slc 0 0 n none nn2], .one [.f (.int .i64 i)]] K := by
  have hin := (List.getElem?_eq_some_iff.1 hx).1
  refine does Tryz.func66 rfl (by decide) ?_
  refine SS.loop (fun j : Nat => j ≤ m ∧ laterZ ((el.drop o).take j) x.v = false) (fun j => [(0, cv (.slc 0 o m c nn)), (1, cv (.func 39 [1, 2])), (7, i64 m), (8, i64 j)]) (fun _ => [.rows false 4 (el.map rowEv), .one [.slc 0 0 n none nn2], .one [.f (.int .i64 i)]]) (fun j => m - j) []
    (At.mk' [0, 1, 7, 8] 0 ⟨Nat.zero_le _, rfl⟩ ⟨rfl, rfl⟩ rfl rfl (by simp) (by simp) (by simp)) ?_
  rintro j ⟨hj, hno⟩
  refine S_r ?_
  refine brc_intro (fun hlt => ?_) (fun hlt => ?_)
  · have hlt : j < m := by
      have := of_decide_eq_true hlt
      have : (j : Int) < (m : Int) := this
      omega
    obtain ⟨y, hy⟩ : ∃ y, el[o + j]? = some y := ⟨_, List.getElem?_eq_getElem (by omega)⟩
    have hyd : (el.drop o)[j]? = some y := by rw [List.getElem?_drop]; exact hy
    have hstep : laterZ ((el.drop o).take (j + 1)) x.v = (laterZ ((el.drop o).take j) x.v || (y.a == 2 && y.v == x.v)) := by
      rw [List.take_add_one, hyd, laterZ, List.any_append]
      simp [laterZ]
    rw [hno, Bool.false_or] at hstep
    have hfull : laterZ ((el.drop o).take (j + 1)) x.v = true → laterZ (el.drop o) x.v = true := fun h => by
      rw [laterZ, List.any_eq_true] at h ⊢
      obtain ⟨e, he, h⟩ := h
      exact ⟨e, List.mem_of_mem_take he, h⟩
    refine SS.inlR ?_
    refine at2 (a := (0 : Int) ≤ (j : Int)) (b := (j : Int) < (m : Int)) (by omega) (by omega) (rdA (rowEv y) (by rw [Int.toNat_natCast, List.getElem?_map, hy]; rfl) ?_)
    change Does Tryz.prog 39 _ _ _
    refine does Tryz.func39 rfl (by decide) ?_
    refine SS.drawR follows (by decide) ?_
    refine brc_intro (fun ha => ?_) (fun ha => ?_)
    · have ha : y.a = 2 := by simpa using ha
      refine at2 (a := (0 : Int) ≤ (i : Int)) (b := (i : Int) < (n : Int)) (by omega) (by omega) (rd1 (rowEv x) (.int .i64 x.v) (gev hx) rfl ?_)
      refine brc_intro (fun hv => ?_) (fun hv => ?_)
      · have hv : y.v = x.v := by simpa using hv
        refine h1 (hfull ?_) j (by omega)
        rw [hstep, ha, hv]
        simp
      · have hv : y.v ≠ x.v := by simpa using hv
        refine At.mk' [0, 1, 7, 8] (j + 1) ⟨⟨hlt, ?_⟩, by omega⟩ ⟨?_, rfl⟩ rfl rfl (by simp) (by simp) (by simp)
        · rw [hstep]
          simp [hv]
        · rw [wrap_i64 _ (by omega) (by omega)]
          rfl
    · have ha : y.a ≠ 2 := by simpa using ha
      refine At.mk' [0, 1, 7, 8] (j + 1) ⟨⟨hlt, ?_⟩, by omega⟩ ⟨?_, rfl⟩ rfl rfl (by simp) (by simp) (by simp)
      · rw [hstep]
        simp [ha]
      · rw [wrap_i64 _ (by omega) (by omega)]
        rfl
  · have hlt : ¬ (j : Int) < (m : Int) := of_decide_eq_false hlt
    obtain rfl : j = m := by omega
    rw [List.take_of_length_le (by simp; omega)] at hno
    exact h0 hno

theorem laterAny {el : List EvZ} {i n o m : Nat} {x : EvZ} {nn nn2 : Bool} {c : Option Nat} (hn : el.length = n) (hb : n ≤ 1000000) (hx : el[i]? = some x) (ho : o + m = n)
    (h : ∀ b, b = laterZ (el.drop o) x.v → K (bl b) [] [.rows false 4 (el.map rowEv), .one [.slc 0 0 n none nn2], .one [.f (.int .i64 i)]]) :
    Does Tryz.prog 30 [cv (.slc 0 o m c nn), cv (.func 39 [1, 2])] [.rows false 4 (el.map rowEv), .one [.slc 0 0 n none nn2], .one [.f (.int .i64 i)]] K := by
  refine does Tryz.func30 rfl (by decide) ?_
  change Does Tryz.prog 66 _ _ _
  refine laterIdx hn hb hx ho (fun hl j hj => ?_) fun hl => ?_
  · have := h (decide ((j : Int) ≥ 0)) (by rw [hl]; exact decide_eq_true (by omega))
    exact this
  · exact h false hl.symm

end

theorem judgeMissing (k : Int) (_hk : -9223372036854775808 ≤ k ∧ k ≤ 9223372036854775807) (n : Int) (_hn : -9223372036854775808 ≤ n ∧ n ≤ 9223372036854775807) (R : Int) (_hR : -9223372036854775808 ≤ R ∧ R ≤ 9223372036854775807) (ms : List MoveZ) (a : Int) (_ha : -9223372036854775808 ≤ a ∧ a ≤ 9223372036854775807) :
    Does Tryz.prog 15 [i64 k, i64 n, i64 R, cv (.slc 0 0 ms.length none false), i64 a] [.rows true 2 (ms.map rowMove), rtH] fun v _ _ => v = bl true := by
  refine does Tryz.func15 rfl (by decide) ?_
  change Does Tryz.prog 38 _ _ _
  refine Does.on 2 [1] _ _ (judged ?_)
  change Does Tryz.prog 20 _ _ _
  refine Does.on 2 [1] _ _ (danced ?_)
  refine brc_intro (fun _ => rfl) (fun h => ?_)
  have hms : ms.length ≤ 600 := by
    have := of_decide_eq_false h
    omega
  change Does Tryz.prog 21 _ _ _
  refine Does.alone 2 (ball k n R ?_)
  obtain ⟨k, hk, hk6⟩ := pick6 k
  obtain ⟨n, hn, hn16⟩ := pick16b n
  obtain ⟨R, hR, hR6⟩ := pick7 R
  rw [hk, hn, hR]
  obtain ⟨z, hz⟩ : ∃ z, movesZ (danceM k n R) (ms.map (pickM n)) = z := ⟨_, rfl⟩
  obtain ⟨A, V, hD⟩ := dance_moves hk6 hn16 (show R ≤ 20 by omega) (ms.map (pickM n))
  rw [hz] at hD
  have hok := hD.ev.ok
  clear hD
  change Does Tryz.prog 23 _ _ _
  refine Does.on 2 [0] _ _ (floor (k := k) (n := n) (R := R) (ms := ms) (z := z) (kindAll hk6 hn16 (by omega)) rfl (by omega) hz fun v hv hw => ?_)
  have hel := hw.el
  have hkz := hw.k
  change Does Tryz.prog 31 _ _ _
  refine Does.on 11 [2, 3, 4, 5, 6, 7, 8, 9, 10] _ _ (coreEvents (m := z) (v := v) (by omega) ?_)
  refine brc_intro (fun _ => rfl) (fun h0 => ?_)
  have h0 : z.el.length ≠ 0 := by
    intro e
    rw [e] at h0
    cases h0
  change Does Tryz.prog 22 _ _ _
  refine Does.alone 13 (pick a z.el.length (by omega) ?_)
  have hpa := pickZ_lt a (n := (z.el.length : Int)) (by omega)
  obtain ⟨i, hi⟩ := Int.eq_ofNat_of_zero_le hpa.1
  rw [hi] at hpa ⊢
  have hil : i < z.el.length := by omega
  obtain ⟨x, hx⟩ : ∃ x, z.el[i]? = some x := ⟨_, List.getElem?_eq_getElem hil⟩
  have wr : IntKind.i64.wrap ((i : Int) + 1) = ((i + 1 : Nat) : Int) := wrap_i64 _ (by omega) (by omega)
  refine Or.inl (And.intro (by rw [wr]; omega) (And.intro (by rw [wr]; omega) ?_))
  change Does Tryz.prog 30 _ _ _
  rw [wr, Int.toNat_natCast]
  refine Does.on 14 [11, 12, 13] _ _ (laterAny (el := z.el) (i := i) (n := z.el.length) (o := 0 + (i + 1)) (m := z.el.length - (i + 1)) (x := x) rfl (by omega) hx (by omega) fun b hb => ?_)
  refine SS.drawR follows (by decide) ?_
  change Does Tryz.prog 42 _ _ _
  refine Does.on 14 [11] _ _ (cloneEv0 (l := z.el) (n := z.el.length) (ro := false) rfl (by omega) (by omega) ?_)
  repeat' (first | refine And.intro rfl ?_ | refine And.intro (Or.inl (And.intro (by omega) (And.intro (by omega) rfl))) ?_ | fail)
  change Does Tryz.prog 41 _ _ _
  rw [wr]
  refine Does.on 15 [14] _ _ (delEvAt (l := z.el) (i := i) (n := z.el.length) (x := x) rfl hx (by omega) ?_)
  repeat' (first | refine And.intro rfl ?_ | refine And.intro (Or.inl (And.intro (by omega) (And.intro (by omega) rfl))) ?_ | fail)
  have hlen : (z.el.take i ++ z.el.drop (i + 1)).length = z.el.length - 1 := by
    rw [List.length_append, List.length_take, List.length_drop]
    omega
  change Does Tryz.prog 40 _ _ _
  refine Does.on 15 [14] _ _ (check (all := z.el.take i ++ z.el.drop (i + 1) ++ [⟨0, 0, 0, 0⟩]) (l := z.el.take i ++ z.el.drop (i + 1)) (k := z.el.length - 1) (n := n) (ro := false) (nn := true) (c := none) hlen (fun j hj => List.getElem?_append_left (by omega)) hn16 (by omega) (fun hok' => ?_) fun e j hj => ?_)
  · repeat' (first | refine And.intro rfl ?_ | refine And.intro (Or.inl (And.intro (by omega) (And.intro (by omega) rfl))) ?_ | fail)
    refine at2 (a := (0 : Int) ≤ (i : Int)) (b := (i : Int) < (z.el.length : Int)) (by omega) (by omega) (rd1 (rowEv x) (.int .i64 x.a) (gev hx) rfl ?_)
    refine brc_intro (fun h1 => ?_) (fun _ => fin rfl)
    have h1 : x.a = 1 := by simpa using h1
    refine brc_intro (fun hbt => ?_) (fun _ => fin rfl)
    exfalso
    rw [hb, laterZ, List.any_eq_true] at hbt
    obtain ⟨e, he, h2⟩ := hbt
    simp only [Bool.and_eq_true, beq_iff_eq] at h2
    rw [Nat.zero_add] at he
    exact missing hok hx h1 ⟨e, he, h2⟩ hok'
  · repeat' (first | refine And.intro rfl ?_ | refine And.intro (Or.inl (And.intro (by omega) (And.intro (by omega) rfl))) ?_ | fail)
    refine at2 (a := (0 : Int) ≤ (i : Int)) (b := (i : Int) < (z.el.length : Int)) (by omega) (by omega) (rd1 (rowEv x) (.int .i64 x.a) (gev hx) rfl ?_)
    refine brc_intro (fun h1 => ?_) (fun _ => fin rfl)
    refine brc_intro (fun _ => fin rfl) (fun _ => fin rfl)

end Go.Mac
