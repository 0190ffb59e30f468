/- What a program of registers says at last. -/
import Derived.Test.YtljglfophhagjaaDoorQGone
open Go Go.Proofs Go.Mac
set_option maxRecDepth 100000
namespace Go.Mac

/-- So many steps of the first thread. -/
def stepsZ : Nat → MZ → MZ
  | 0, m => m
  | n + 1, m => (stepZ (stepsZ n m) 0).2

theorem stepsZ_wf {m : MZ} (hw : WF m) : ∀ n, WF (stepsZ n m)
  | 0 => hw
  | n + 1 => (stepsZ_wf hw n).step 0

theorem stepsZ_add (m : MZ) (a : Nat) : ∀ b, stepsZ (a + b) m = stepsZ b (stepsZ a m)
  | 0 => rfl
  | b + 1 => by rw [← Nat.add_assoc]; show (stepZ (stepsZ (a + b) m) 0).2 = _; rw [stepsZ_add m a b]; rfl

theorem stepZ_done {m : MZ} (h : 0 < m.ts.length) (hd : (thZ m 0).dn = true) : stepZ m 0 = (6, m) := by
  unfold stepZ
  rw [if_neg (by omega)]
  exact if_pos hd

theorem stepsZ_done {m : MZ} (h : 0 < m.ts.length) (hd : (thZ m 0).dn = true) : ∀ n, stepsZ n m = m
  | 0 => rfl
  | n + 1 => by
    show (stepZ (stepsZ n m) 0).2 = m
    rw [stepsZ_done h hd n, stepZ_done h hd]

abbrev resP (l : List InsZ) : List InsZ := l ++ [⟨7, 0, 3, -1, 0⟩, ⟨0, 0, 0, 0, 0⟩]

theorem result {K : AV → List Nat → List PO → Prop} {l : List InsZ} {n : Nat} {nn : Bool} {w : Int} (hn : l.length = n) (hn2 : n ≤ 20) (hr : rightZ (resP l) 1 = true) (ha : allZ (stepsZ 100 (mz0 [resP l] [0])) = true) (hw : (stepsZ 100 (mz0 [resP l] [0])).ws = [w])
    (hK : K (.tup [.c (.f (.int .u64 w)), .c (.f (.bool true))]) [0] [.gone]) : Does Tryd.prog 25 [cv (.slc 0 0 n none nn)] [.rows false 5 (l.map rowIns)] K := by
  refine does Tryd.func25 rfl (by decide) ?_
  refine And.intro (by decide) (Or.inl (And.intro rfl (And.intro (by simp [hn]) (And.intro ?_ (And.intro ?_ ?_)))))
  · show (n + 2) * 40 ≤ _
    omega
  · show n + 2 ≤ _
    omega
  refine And.intro (by simp [hn]) ?_
  have e : l.map rowIns ++ List.take 2 (List.drop 0 [[FC.int .i64 7, FC.int .i64 0, FC.int .i64 3, FC.int .i64 (-1), FC.int .i64 0], [FC.int .i64 0, FC.int .i64 0, FC.int .i64 0, FC.int .i64 0, FC.int .i64 0]]) = (resP l).map rowIns := by
    rw [List.map_append]; rfl
  change Does Tryd.prog 30 _ _ _
  rw [e]
  have w0 : WF (mz0 [resP l] [0]) := mz0_wf (by simp) (by simp) (fun p hp => by simp at hp; subst hp; exact hr) (by simp)
  refine Does.on 4 [2, 3] _ _ (coreNew (ps := [resP l]) (ws := [0]) (n := 1) (nc := 1) (ro := false) (ro2 := false) rfl rfl (by decide) (by decide) (fun p hp => by simp at hp; subst hp; exact hr) fun v hv => ?_)
  refine SS.loop (fun p : Nat × VZ => p.1 ≤ 100 ∧ okV p.2) (fun p => [(5, cv (.ptr 4 0)), (28, i64 p.1)])
    (fun p => [.gone, .rows false 5 [[.int .i64 7, .int .i64 0, .int .i64 3, .int .i64 (-1), .int .i64 0], [.int .i64 0, .int .i64 0, .int .i64 0, .int .i64 0, .int .i64 0]], .rows2 false 5 [(resP l).map rowIns], .rows false 1 [[.int .u64 0]]] ++ machS 4 (stepsZ p.1 (mz0 [resP l] [0])) p.2)
    (fun p => 100 - p.1) [0, 10, 11, 12]
    (At.mk' [5, 28] (0, v) ⟨by simp, hv⟩ ⟨rfl, rfl⟩ rfl rfl (by simp) (by simp) (by decide)) ?_
  rintro ⟨i, v1⟩ ⟨hi, hv1⟩
  change i ≤ 100 at hi
  have hw1 := stepsZ_wf w0 i
  refine S_r ?_
  refine brc_intro (fun hlt => ?_) (fun hlt => ?_)
  · have hlt : i < 100 := by
      have := of_decide_eq_true hlt
      have : (i : Int) < 100 := this
      omega
    change Does Tryd.prog 31 _ _ _
    refine Does.on 13 [4, 5, 6, 7, 8, 9, 10, 11, 12] _ _ (coreStep (m := stepsZ i (mz0 [resP l] [0])) (v := v1) hw1 hv1 0 (fun _ v' hv' => ?_) fun _ v' hv' => ?_)
    all_goals
      refine At.mk' [5, 28] (i + 1, v') ⟨⟨by show i + 1 ≤ 100; omega, hv'⟩, by show 100 - (i + 1) < 100 - i; omega⟩ ⟨?_, rfl⟩ rfl rfl (by simp) (by simp) (by decide)
      rw [wrap_i64 (i + 1) (by omega) (by omega)]
      rfl
  · have hlt : ¬ (i : Int) < 100 := of_decide_eq_false hlt
    obtain rfl : i = 100 := by omega
    generalize stepsZ 100 (mz0 [resP l] [0]) = m at *
    have hnc : m.nc = 1 := by rw [← hw1.nc, hw]; rfl
    change Does Tryd.prog 33 _ _ _
    refine Does.on 13 [4, 5, 6, 7, 8, 9, 10, 11, 12] _ _ (coreCells (m := m) (v := v1) hw1.nc (by omega) ?_)
    rw [hw, hnc]
    change Does Tryd.prog 34 _ _ _
    refine Does.on 14 [4, 5, 6, 7, 8, 9, 10, 11, 12] _ _ (coreEnds (m := m) (v := v1) hw1 ?_)
    rw [ha]
    refine at2 (by decide) (by decide) (rd1 [.int .u64 w] (.int .u64 w) rfl rfl ?_)
    exact hK

theorem stepZ_one {p : List InsZ} {x x' : ThZ} {ws : List Int} {al : List ActZ} {el : List EvZ} {k nc : Nat} {i : InsZ} (hd : x.dn = false) (hk : k < 20000) (hi : p[x.pc]? = some i) (hl : localZ { x with pc := x.pc + 1 } i = some x') :
    (stepZ ⟨[p], [x], ws, [], al, el, k, nc⟩ 0).2 = ⟨[p], [x'], ws, [], al, el, k + 1, nc⟩ := by
  have h1 : stepZ ⟨[p], [x], ws, [], al, el, k, nc⟩ 0 = goZ ⟨[p], [x], ws, [], al, el, k, nc⟩ 0 := by
    unfold stepZ
    rw [if_neg (by simp), if_neg (by show ¬ x.dn = true; rw [hd]; decide), if_neg (by show ¬ false = true; decide), if_neg (by show ¬ k = 20000; omega)]
    rfl
  have hins : insZ ⟨[p], [x], ws, [], al, el, k, nc⟩ 0 x.pc = i := by
    show p.getD x.pc _ = i
    rw [List.getD_eq_getElem?_getD, hi]; rfl
  rw [h1, goZ, show thZ ⟨[p], [x], ws, [], al, el, k, nc⟩ 0 = x from rfl, hins, doZ, hl]
  rfl

/-- So many instructions that ask no cell. -/
def locN (p : List InsZ) : Nat → ThZ → Option ThZ
  | 0, x => some x
  | n + 1, x => if x.dn then none else
    match p[x.pc]? with
    | some i =>
      match localZ { x with pc := x.pc + 1 } i with
      | some x' => locN p n x'
      | none => none
    | none => none

theorem locN_cons {p : List InsZ} {n : Nat} {x x1 x' : ThZ} {i : InsZ} (hd : x.dn = false) (hi : p[x.pc]? = some i) (hl : localZ { x with pc := x.pc + 1 } i = some x1) (h : locN p n x1 = some x') : locN p (n + 1) x = some x' := by
  rw [locN, if_neg (by rw [hd]; decide), hi]
  dsimp only
  rw [hl]
  exact h

theorem locN_steps {p : List InsZ} {ws : List Int} {al : List ActZ} {el : List EvZ} {nc : Nat} : ∀ (n : Nat) (x x' : ThZ) (k : Nat), k + n ≤ 20000 → locN p n x = some x' →
    stepsZ n ⟨[p], [x], ws, [], al, el, k, nc⟩ = ⟨[p], [x'], ws, [], al, el, k + n, nc⟩
  | 0, x, x', k, _, h => by cases h; rfl
  | n + 1, x, x', k, hk, h => by
    rw [locN] at h
    split at h
    · cases h
    · rename_i hd
      split at h
      · rename_i i hi
        split at h
        · rename_i x1 hl
          have := stepZ_one (ws := ws) (al := al) (el := el) (nc := nc) (by simpa using hd) (show k < 20000 by omega) hi hl
          rw [Nat.add_comm n 1, stepsZ_add]
          show stepsZ n (stepZ _ 0).2 = _
          rw [show stepsZ 0 (⟨[p], [x], ws, [], al, el, k, nc⟩ : MZ) = ⟨[p], [x], ws, [], al, el, k, nc⟩ from rfl, this, locN_steps n x1 x' (k + 1) (by omega) h]
          congr 1
          omega
        · cases h
      · cases h

theorem res_run {l : List InsZ} {n : Nat} {x : ThZ} (h : locN (resP l) n th0 = some x) (hpc : x.pc = l.length) (hd : x.dn = false) (hn : n ≤ 90) :
    allZ (stepsZ 100 (mz0 [resP l] [0])) = true ∧ (stepsZ 100 (mz0 [resP l] [0])).ws = [rgZ x.rg 3] := by
  have e : mz0 [resP l] [0] = ⟨[resP l], [th0], [0], [], [], [], 0, 1⟩ := rfl
  have h1 : stepsZ n (mz0 [resP l] [0]) = ⟨[resP l], [x], [0], [], [], [], 0 + n, 1⟩ := by rw [e]; exact locN_steps n th0 x 0 (by omega) h
  have hi : (resP l)[x.pc]? = some ⟨7, 0, 3, -1, 0⟩ := by rw [hpc, resP, List.getElem?_append_right (by omega)]; simp
  have hi2 : (resP l)[x.pc + 1]? = some ⟨0, 0, 0, 0, 0⟩ := by rw [hpc, resP, List.getElem?_append_right (by omega)]; simp
  have h2 : (stepZ ⟨[resP l], [x], [0], [], [], [], 0 + n, 1⟩ 0).2 = ⟨[resP l], [{ x with pc := x.pc + 1 }], [rgZ x.rg 3], [], [⟨((0 + n + 1 : Nat) : Int), 0, 7, 0, 0, rgZ x.rg 3⟩], [], 0 + n + 1, 1⟩ := by
    have h1 : stepZ ⟨[resP l], [x], [0], [], [], [], 0 + n, 1⟩ 0 = goZ ⟨[resP l], [x], [0], [], [], [], 0 + n, 1⟩ 0 := by
      unfold stepZ
      rw [if_neg (by simp), if_neg (by show ¬ x.dn = true; rw [hd]; decide), if_neg (by show ¬ false = true; decide), if_neg (by show ¬ 0 + n = 20000; omega)]
      rfl
    have hins : insZ ⟨[resP l], [x], [0], [], [], [], 0 + n, 1⟩ 0 x.pc = ⟨7, 0, 3, -1, 0⟩ := by
      show (resP l).getD x.pc _ = _
      rw [List.getD_eq_getElem?_getD, hi]; rfl
    rw [h1, goZ, show thZ ⟨[resP l], [x], [0], [], [], [], 0 + n, 1⟩ 0 = x from rfl, hins]
    rfl
  have h3 := stepZ_one (p := resP l) (x := { x with pc := x.pc + 1 }) (ws := [rgZ x.rg 3]) (al := [⟨((0 + n + 1 : Nat) : Int), 0, 7, 0, 0, rgZ x.rg 3⟩]) (el := []) (k := 0 + n + 1) (nc := 1) (i := ⟨0, 0, 0, 0, 0⟩) (x' := { x with pc := x.pc + 1 + 1, dn := true }) hd (by omega) hi2 rfl
  have h4 : stepsZ (n + 2) (mz0 [resP l] [0]) = ⟨[resP l], [{ x with pc := x.pc + 1 + 1, dn := true }], [rgZ x.rg 3], [], [⟨((0 + n + 1 : Nat) : Int), 0, 7, 0, 0, rgZ x.rg 3⟩], [], 0 + n + 1 + 1, 1⟩ := by
    show (stepZ (stepZ (stepsZ n (mz0 [resP l] [0])) 0).2 0).2 = _
    rw [h1, h2, h3]
  have h5 : stepsZ 100 (mz0 [resP l] [0]) = stepsZ (n + 2) (mz0 [resP l] [0]) := by
    rw [show 100 = (n + 2) + (98 - n) by omega, stepsZ_add]
    exact stepsZ_done (by rw [h4]; exact Nat.one_pos) (by rw [h4]; rfl) _
  rw [h5, h4]
  exact ⟨rfl, rfl⟩

end Go.Mac
