/- What a program of registers says at last. -/
import Derived.Test.YtondghnbecnpiaaDoorQGone
open Go Go.Proofs Go.Mac
set_option maxRecDepth 100000
namespace Go.Mac

/-- So many steps of the first thread. -/
def stepsZ : Nat → MZ → MZ
  | 0, m => m
  | n + 1, m => (stepZ (stepsZ n m) 0).2

theorem stepsZ_wf {m : MZ} (hw : WF m) : ∀ n, WF (stepsZ n m)
  | 0 => hw
  | n + 1 => (stepsZ_wf hw n).step 0

theorem stepsZ_add (m : MZ) (a : Nat) : ∀ b, stepsZ (a + b) m = stepsZ b (stepsZ a m)
  | 0 => rfl
  | b + 1 => by rw [← Nat.add_assoc]; show (stepZ (stepsZ (a + b) m) 0).2 = _; rw [stepsZ_add m a b]; rfl

theorem stepZ_done {m : MZ} (h : 0 < m.ts.length) (hd : (thZ m 0).dn = true) : stepZ m 0 = (6, m) := by
  unfold stepZ
  rw [if_neg (by omega)]
  exact if_pos hd

theorem stepsZ_done {m : MZ} (h : 0 < m.ts.length) (hd : (thZ m 0).dn = true) : ∀ n, stepsZ n m = m
  | 0 => rfl
  | n + 1 => by
    show (stepZ (stepsZ n m) 0).2 = m
    rw [stepsZ_done h hd n, stepZ_done h hd]

abbrev resP (l : List InsZ) : List InsZ := l ++ [⟨7, 0, 3, -1, 0⟩, ⟨0, 0, 0, 0, 0⟩]

theorem stepZ_one {p : List InsZ} {x x' : ThZ} {ws : List Int} {al : List ActZ} {el : List EvZ} {k nc : Nat} {i : InsZ} (hd : x.dn = false) (hk : k < 20000) (hi : p[x.pc]? = some i) (hl : localZ { x with pc := x.pc + 1 } i = some x') :
    (stepZ ⟨[p], [x], ws, [], al, el, k, nc⟩ 0).2 = ⟨[p], [x'], ws, [], al, el, k + 1, nc⟩ := by
  have h1 : stepZ ⟨[p], [x], ws, [], al, el, k, nc⟩ 0 = goZ ⟨[p], [x], ws, [], al, el, k, nc⟩ 0 := by
    unfold stepZ
    rw [if_neg (by simp), if_neg (by show ¬ x.dn = true; rw [hd]; decide), if_neg (by show ¬ false = true; decide), if_neg (by show ¬ k = 20000; omega)]
    rfl
  have hins : insZ ⟨[p], [x], ws, [], al, el, k, nc⟩ 0 x.pc = i := by
    show p.getD x.pc _ = i
    rw [List.getD_eq_getElem?_getD, hi]; rfl
  rw [h1, goZ, show thZ ⟨[p], [x], ws, [], al, el, k, nc⟩ 0 = x from rfl, hins, doZ, hl]
  rfl

/-- So many instructions that ask no cell. -/
def locN (p : List InsZ) : Nat → ThZ → Option ThZ
  | 0, x => some x
  | n + 1, x => if x.dn then none else
    match p[x.pc]? with
    | some i =>
      match localZ { x with pc := x.pc + 1 } i with
      | some x' => locN p n x'
      | none => none
    | none => none

theorem locN_cons {p : List InsZ} {n : Nat} {x x1 x' : ThZ} {i : InsZ} (hd : x.dn = false) (hi : p[x.pc]? = some i) (hl : localZ { x with pc := x.pc + 1 } i = some x1) (h : locN p n x1 = some x') : locN p (n + 1) x = some x' := by
  rw [locN, if_neg (by rw [hd]; decide), hi]
  dsimp only
  rw [hl]
  exact h

theorem locN_steps {p : List InsZ} {ws : List Int} {al : List ActZ} {el : List EvZ} {nc : Nat} : ∀ (n : Nat) (x x' : ThZ) (k : Nat), k + n ≤ 20000 → locN p n x = some x' →
    stepsZ n ⟨[p], [x], ws, [], al, el, k, nc⟩ = ⟨[p], [x'], ws, [], al, el, k + n, nc⟩
  | 0, x, x', k, _, h => by cases h; rfl
  | n + 1, x, x', k, hk, h => by
    rw [locN] at h
    split at h
    · cases h
    · rename_i hd
      split at h
      · rename_i i hi
        split at h
        · rename_i x1 hl
          have := stepZ_one (ws := ws) (al := al) (el := el) (nc := nc) (by simpa using hd) (show k < 20000 by omega) hi hl
          rw [Nat.add_comm n 1, stepsZ_add]
          show stepsZ n (stepZ _ 0).2 = _
          rw [show stepsZ 0 (⟨[p], [x], ws, [], al, el, k, nc⟩ : MZ) = ⟨[p], [x], ws, [], al, el, k, nc⟩ from rfl, this, locN_steps n x1 x' (k + 1) (by omega) h]
          congr 1
          omega
        · cases h
      · cases h

theorem res_run {l : List InsZ} {n : Nat} {x : ThZ} (h : locN (resP l) n th0 = some x) (hpc : x.pc = l.length) (hd : x.dn = false) (hn : n ≤ 90) :
    allZ (stepsZ 100 (mz0 [resP l] [0])) = true ∧ (stepsZ 100 (mz0 [resP l] [0])).ws = [rgZ x.rg 3] := by
  have e : mz0 [resP l] [0] = ⟨[resP l], [th0], [0], [], [], [], 0, 1⟩ := rfl
  have h1 : stepsZ n (mz0 [resP l] [0]) = ⟨[resP l], [x], [0], [], [], [], 0 + n, 1⟩ := by rw [e]; exact locN_steps n th0 x 0 (by omega) h
  have hi : (resP l)[x.pc]? = some ⟨7, 0, 3, -1, 0⟩ := by rw [hpc, resP, List.getElem?_append_right (by omega)]; simp
  have hi2 : (resP l)[x.pc + 1]? = some ⟨0, 0, 0, 0, 0⟩ := by rw [hpc, resP, List.getElem?_append_right (by omega)]; simp
  have h2 : (stepZ ⟨[resP l], [x], [0], [], [], [], 0 + n, 1⟩ 0).2 = ⟨[resP l], [{ x with pc := x.pc + 1 }], [rgZ x.rg 3], [], [⟨((0 + n + 1 : Nat) : Int), 0, 7, 0, 0, rgZ x.rg 3⟩], [], 0 + n + 1, 1⟩ := by
    have h1 : stepZ ⟨[resP l], [x], [0], [], [], [], 0 + n, 1⟩ 0 = goZ ⟨[resP l], [x], [0], [], [], [], 0 + n, 1⟩ 0 := by
      unfold stepZ
      rw [if_neg (by simp), if_neg (by show ¬ x.dn = true; rw [hd]; decide), if_neg (by show ¬ false = true; decide), if_neg (by show ¬ 0 + n = 20000; omega)]
      rfl
    have hins : insZ ⟨[resP l], [x], [0], [], [], [], 0 + n, 1⟩ 0 x.pc = ⟨7, 0, 3, -1, 0⟩ := by
      show (resP l).getD x.pc _ = _
      rw [List.getD_eq_getElem?_getD, hi]; rfl
    rw [h1, goZ, show thZ ⟨[resP l], [x], [0], [], [], [], 0 + n, 1⟩ 0 = x from rfl, hins]
    rfl
  have h3 := stepZ_one (p := resP l) (x := { x with pc := x.pc + 1 }) (ws := [rgZ x.rg 3]) (al := [⟨((0 + n + 1 : Nat) : Int), 0, 7, 0, 0, rgZ x.rg 3⟩]) (el := []) (k := 0 + n + 1) (nc := 1) (i := ⟨0, 0, 0, 0, 0⟩) (x' := { x with pc := x.pc + 1 + 1, dn := true }) hd (by omega) hi2 rfl
  have h4 : stepsZ (n + 2) (mz0 [resP l] [0]) = ⟨[resP l], [{ x with pc := x.pc + 1 + 1, dn := true }], [rgZ x.rg 3], [], [⟨((0 + n + 1 : Nat) : Int), 0, 7, 0, 0, rgZ x.rg 3⟩], [], 0 + n + 1 + 1, 1⟩ := by
    show (stepZ (stepZ (stepsZ n (mz0 [resP l] [0])) 0).2 0).2 = _
    rw [h1, h2, h3]
  have h5 : stepsZ 100 (mz0 [resP l] [0]) = stepsZ (n + 2) (mz0 [resP l] [0]) := by
    rw [show 100 = (n + 2) + (98 - n) by omega, stepsZ_add]
    exact stepsZ_done (by rw [h4]; exact Nat.one_pos) (by rw [h4]; rfl) _
  rw [h5, h4]
  exact ⟨rfl, rfl⟩

end Go.Mac
