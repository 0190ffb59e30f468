/- Texts that belong together; the first of them: Machines of threads whose programs say one thing over and over: what a step does, and sums over threads. -/
import Derived.Test.YtlimhldkkbaohaaGreatDoorGFinish

/- Machines of threads whose programs say one thing over and over: what a step does, and sums over threads. -/
section
open Go Go.Proofs Go.Mac
set_option maxRecDepth 100000
namespace Go.Mac

theorem moves_inv {P : Nat → MZ → Prop} (hs : ∀ i m t, P i m → P (i + 1) (stepZ m t).2) (hp : ∀ i m t, P i m → P (i + 1) (pokeZ m t)) : ∀ (l : List MoveZ) (i : Nat) (m : MZ), P i m → P (i + l.length) (movesZ m l)
  | [], i, m, h => h
  | x :: l, i, m, h => by
    have h1 : P (i + 1) (moveZ m x) := by
      rw [moveZ]
      split
      · exact hp i m _ h
      · exact hs i m _ h
    have := moves_inv hs hp l (i + 1) _ h1
    rw [List.length_cons, show i + (l.length + 1) = i + 1 + l.length by omega]
    exact this

theorem sweep_inv {P : MZ → Prop} (hs : ∀ m (t : Nat), P m → canZ m t = true → m.k < 20000 → P (stepZ m t).2) {m : MZ} (h : P m) : ∀ n, P (sweepN m n).1
  | 0 => h
  | n + 1 => by
    have ih := sweep_inv hs h n
    rw [sweepN_succ, sweepS]
    split
    · rename_i hc
      exact hs _ _ ih hc.1 hc.2
    · exact ih

theorem sweep_none {m : MZ} : ∀ n, (sweepN m n).2 = false → (sweepN m n).1 = m ∧ ∀ t, t < n → ¬ (canZ m (t : Int) = true ∧ m.k < 20000)
  | 0, _ => ⟨rfl, fun t h => by omega⟩
  | n + 1, h => by
    rw [sweepN_succ, sweepS] at h ⊢
    split at h
    · cases h
    · rename_i hc
      obtain ⟨e, hn⟩ := sweep_none n h
      rw [if_neg hc]
      refine ⟨e, fun t ht => ?_⟩
      rcases Nat.lt_succ_iff_lt_or_eq.1 ht with h' | rfl
      · exact hn t h'
      · rw [e] at hc; exact hc

theorem finZ_inv {P : MZ → Prop} (hs : ∀ m (t : Nat), P m → canZ m t = true → m.k < 20000 → P (stepZ m t).2) : ∀ (f : Nat) (m : MZ), P m → WF m → 20001 ≤ f + m.k → P (finZ f m) ∧ ∀ t, t < (finZ f m).ts.length → ¬ (canZ (finZ f m) (t : Int) = true ∧ (finZ f m).k < 20000)
  | 0, m, _, hw, h => by have := hw.k; omega
  | f + 1, m, hP, hw, h => by
    have hsw := sweepN_ok hw m.ts.length
    have hi := sweep_inv hs hP m.ts.length
    rw [finZ]
    split
    · rename_i hb
      have := hsw.up hb
      exact finZ_inv hs f _ hi hsw.wf (by omega)
    · rename_i hb
      have hb : (sweepN m m.ts.length).2 = false := by simpa using hb
      obtain ⟨e, hn⟩ := sweep_none _ hb
      rw [e]
      exact ⟨hP, hn⟩

theorem finish_inv {P : MZ → Prop} (hs : ∀ m (t : Nat), P m → canZ m t = true → m.k < 20000 → P (stepZ m t).2) {m : MZ} (hP : P m) (hw : WF m) : P (finish m) ∧ ∀ t, t < (finish m).ts.length → ¬ (canZ (finish m) (t : Int) = true ∧ (finish m).k < 20000) :=
  finZ_inv hs 20001 m hP hw (by omega)

/-- A step does nothing, or a thread that can goes on. -/
theorem step_or {m : MZ} (hw : WF m) (t : Int) : (stepZ m t).2 = m ∨ ∃ s : Nat, t = s ∧ canZ m s = true ∧ m.k < 20000 := by
  by_cases h1 : t < 0 ∨ (m.ts.length : Int) ≤ t
  · left; rw [stepZ, if_pos h1]
  by_cases h2 : (thZ m t.toNat).dn = true
  · left; rw [stepZ, if_neg h1, if_pos h2]
  by_cases h3 : asleepZ m t = true
  · left; rw [stepZ, if_neg h1, if_neg h2, if_pos h3]
  by_cases h4 : m.k = 20000
  · left; rw [stepZ, if_neg h1, if_neg h2, if_neg h3, if_pos h4]
  right
  obtain ⟨s, rfl⟩ := Int.eq_ofNat_of_zero_le (show 0 ≤ t by omega)
  refine ⟨s, rfl, ?_, by have := hw.k; omega⟩
  rw [Int.toNat_natCast] at h2
  rw [canZ, decide_eq_true (by omega)]
  simp [h2, h3]

theorem can_out {m : MZ} {t : Nat} (h : canZ m t = true) : ∃ x, m.ts[t]? = some x ∧ x.dn = false ∧ noT m.ss t := by
  simp only [canZ, Bool.and_eq_true, decide_eq_true_eq, Bool.not_eq_true', Int.toNat_natCast] at h
  obtain ⟨⟨h1, h2⟩, h3⟩ := h
  obtain ⟨x, hx⟩ : ∃ x, m.ts[t]? = some x := ⟨_, List.getElem?_eq_getElem (by omega)⟩
  refine ⟨x, hx, by rw [thZ_get hx] at h2; exact h2, fun s hs => ?_⟩
  rw [asleepZ, List.any_eq_false] at h3
  simpa using h3 s hs

theorem can_in {m : MZ} {t : Nat} {x : ThZ} (hx : m.ts[t]? = some x) (hd : x.dn = false) (hno : noT m.ss t) : canZ m t = true := by
  have := (List.getElem?_eq_some_iff.1 hx).1
  rw [canZ, decide_eq_true (by omega), Int.toNat_natCast, thZ_get hx, hd, asleep_no hno]
  rfl

/-- What a thread that can does. -/
theorem can_go {m : MZ} {t : Nat} {x : ThZ} {p : List InsZ} {i : InsZ} (hc : canZ m t = true) (hk : m.k < 20000) (hx : m.ts[t]? = some x) (hp : m.ps[t]? = some p) (hi : p[x.pc]? = some i) :
    (stepZ m t).2 = (doZ ({ m with k := m.k + 1 }.th t { x with pc := x.pc + 1 }) t { x with pc := x.pc + 1 } i).2 := by
  obtain ⟨y, hy, hd, hno⟩ := can_out hc
  rw [hx] at hy
  obtain rfl := Option.some.inj hy
  have hlt := (List.getElem?_eq_some_iff.1 hx).1
  rw [stepZ, if_neg (by omega), Int.toNat_natCast, thZ_get hx, if_neg (by rw [hd]; decide), asleep_no hno, if_neg (by decide), if_neg (by omega), goZ, onZ, thZ_get hx, insZ_get hp hi]

/-- A sum over threads. -/
def rsum (n : Nat) (g : Nat → Nat) : Nat := ((List.range n).map g).sum

theorem rsum_succ (n : Nat) (g : Nat → Nat) : rsum (n + 1) g = rsum n g + g n := by
  rw [rsum, List.range_succ, List.map_append, List.sum_append]
  simp [rsum]

theorem rsum_le {n : Nat} {g h : Nat → Nat} (hl : ∀ s, s < n → g s ≤ h s) : rsum n g ≤ rsum n h := by
  induction n with
  | zero => exact Nat.le_refl _
  | succ n ih =>
    rw [rsum_succ, rsum_succ]
    have := ih fun s hs => hl s (by omega)
    have := hl n (by omega)
    omega

theorem rsum_upd {n t : Nat} {g h : Nat → Nat} (ht : t < n) (hl : ∀ s, s < n → s ≠ t → g s ≤ h s) : rsum n g + h t ≤ rsum n h + g t := by
  induction n with
  | zero => omega
  | succ n ih =>
    rw [rsum_succ, rsum_succ]
    by_cases e : t = n
    · subst e
      have := rsum_le (n := t) (g := g) (h := h) fun s hs => hl s (by omega) (by omega)
      omega
    · have := ih (by omega) fun s hs hne => hl s (by omega) hne
      have := hl n (by omega) (by omega)
      omega

theorem rsum_const (n c : Nat) (g : Nat → Nat) (h : ∀ s, s < n → g s ≤ c) : rsum n g ≤ n * c := by
  induction n with
  | zero => simp [rsum]
  | succ n ih =>
    rw [rsum_succ, Nat.succ_mul]
    have := ih fun s hs => h s (by omega)
    have := h n (by omega)
    omega

theorem ts_set {m : MZ} {t s : Nat} {x y : ThZ} (hlt : t < m.ts.length) (h : (m.ts.set t y)[s]? = some x) : s = t ∧ x = y ∨ s ≠ t ∧ m.ts[s]? = some x := by
  by_cases e : t = s
  · subst e
    rw [List.getElem?_set_self hlt] at h
    exact .inl ⟨rfl, (Option.some.inj h).symm⟩
  · rw [List.getElem?_set_ne e] at h
    exact .inr ⟨fun h => e h.symm, h⟩

/-- Instructions in their place. -/
def relI (p : Int) (i : InsZ) : InsZ :=
  if i.op = 10 then { i with a := p + i.a } else if i.op = 11 ∨ i.op = 12 ∨ i.op = 13 then { i with c := p + i.c } else i

/-- One body so often. -/
def repU (B : List InsZ) : Nat → List InsZ
  | 0 => []
  | n + 1 => repU B n ++ B.map (relI (repU B n).length)

def repP (B : List InsZ) (n : Nat) : List InsZ := repU B n ++ [⟨0, 0, 0, 0, 0⟩]

theorem repU_len (B : List InsZ) : ∀ n, (repU B n).length = B.length * n
  | 0 => by simp [repU]
  | n + 1 => by rw [repU, List.length_append, repU_len B n, List.length_map, Nat.mul_succ]

theorem repP_len (B : List InsZ) (n : Nat) : (repP B n).length = B.length * n + 1 := by
  rw [repP, List.length_append, repU_len]; rfl

theorem repU_get (B : List InsZ) {j o : Nat} (ho : o < B.length) : ∀ n, j < n → (repU B n)[B.length * j + o]? = some (relI ((B.length * j : Nat) : Int) B[o])
  | 0, h => by omega
  | n + 1, h => by
    rw [repU]
    by_cases e : j = n
    · subst e
      rw [List.getElem?_append_right (by rw [repU_len]; omega), repU_len, Nat.add_sub_cancel_left, List.getElem?_map, List.getElem?_eq_getElem ho]
      rfl
    · have hlt : B.length * j + o < B.length * n := by
        have : B.length * (j + 1) ≤ B.length * n := Nat.mul_le_mul_left _ (by omega)
        rw [Nat.mul_succ] at this
        omega
      rw [List.getElem?_append_left (by rw [repU_len]; exact hlt)]
      exact repU_get B ho n (by omega)

theorem repP_get (B : List InsZ) {j o n : Nat} (ho : o < B.length) (hj : j < n) : (repP B n)[B.length * j + o]? = some (relI ((B.length * j : Nat) : Int) B[o]) := by
  have hlt : B.length * j + o < B.length * n := by
    have : B.length * (j + 1) ≤ B.length * n := Nat.mul_le_mul_left _ (by omega)
    rw [Nat.mul_succ] at this
    omega
  rw [repP, List.getElem?_append_left (by rw [repU_len]; exact hlt)]
  exact repU_get B ho n hj

theorem repP_halt (B : List InsZ) (n : Nat) : (repP B n)[B.length * n]? = some ⟨0, 0, 0, 0, 0⟩ := by
  rw [repP, List.getElem?_append_right (by rw [repU_len]; omega), repU_len, Nat.sub_self]
  rfl

/-- Who sleeps at one cell is woken, all of them. -/
theorem wakeL_all (c n : Int) : ∀ (l : List Slp) (k : Nat), (∀ s ∈ l, s.c = c) → ((k + l.length : Nat) : Int) ≤ n → (wakeL c n k l).2 = []
  | [], _, _, _ => rfl
  | x :: xs, k, h, hn => by
    rw [List.length_cons] at hn
    rw [wakeL, if_pos ⟨h x (by simp), by omega⟩]
    exact wakeL_all c n xs (k + 1) (fun s hs => h s (by simp [hs])) (by omega)

theorem wakeL_none (c n : Int) : ∀ (l : List Slp) (k : Nat), (∀ s ∈ l, s.c ≠ c) → (wakeL c n k l).2 = l
  | [], _, _ => rfl
  | x :: xs, k, h => by
    rw [wakeL, if_neg (fun h' => h x (by simp) h'.1)]
    exact congrArg (x :: ·) (wakeL_none c n xs k fun s hs => h s (by simp [hs]))

theorem nodup_len : ∀ (n : Nat) (l : List Int), l.Nodup → (∀ x ∈ l, 0 ≤ x ∧ x < n) → l.length ≤ n
  | 0, l, _, h => by
    cases l with
    | nil => simp
    | cons x l => have := h x (by simp); omega
  | n + 1, l, hd, h => by
    have h1 := nodup_len n (l.erase n) (hd.erase _) fun x hx => by
      have h2 := h x (List.mem_of_mem_erase hx)
      have h3 : x ≠ n := fun e => by subst e; exact hd.not_mem_erase hx
      omega
    have := List.length_erase (a := (n : Int)) (l := l)
    split at this <;> omega

theorem ss_len {m : MZ} (hw : WF m) : m.ss.length ≤ m.ts.length := by
  have := nodup_len m.ts.length (m.ss.map (·.t)) hw.ss.1 fun x hx => by
    obtain ⟨s, hs, rfl⟩ := List.mem_map.1 hx
    have := hw.ss.2 s hs
    omega
  simpa using this

end Go.Mac
end
