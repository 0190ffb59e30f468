/- Texts that belong together; the first of them: Machines of threads whose programs say one thing over and over: what a step does, and sums over threads. -/
import Derived.Test.YtlimhldkkbaohaaDoorGFinish

/- Machines of threads whose programs say one thing over and over: what a step does, and sums over threads. -/
section
open Go Go.Proofs Go.Mac
set_option maxRecDepth 100000
namespace Go.Mac

theorem moves_inv {P : Nat → MZ → Prop} (hs : ∀ i m t, P i m → P (i + 1) (stepZ m t).2) (hp : ∀ i m t, P i m → P (i + 1) (pokeZ m t)) : ∀ (l : List MoveZ) (i : Nat) (m : MZ), P i m → P (i + l.length) (movesZ m l)
  | [], i, m, h => h
  | x :: l, i, m, h => by
    have h1 : P (i + 1) (moveZ m x) := by
      rw [moveZ]
      split
      · exact hp i m _ h
      · exact hs i m _ h
    have := moves_inv hs hp l (i + 1) _ h1
    rw [List.length_cons, show i + (l.length + 1) = i + 1 + l.length by omega]
    exact this

theorem sweep_inv {P : MZ → Prop} (hs : ∀ m (t : Nat), P m → canZ m t = true → m.k < 20000 → P (stepZ m t).2) {m : MZ} (h : P m) : ∀ n, P (sweepN m n).1
  | 0 => h
  | n + 1 => by
    have ih := sweep_inv hs h n
    rw [sweepN_succ, sweepS]
    split
    · rename_i hc
      exact hs _ _ ih hc.1 hc.2
    · exact ih

theorem sweep_none {m : MZ} : ∀ n, (sweepN m n).2 = false → (sweepN m n).1 = m ∧ ∀ t, t < n → ¬ (canZ m (t : Int) = true ∧ m.k < 20000)
  | 0, _ => ⟨rfl, fun t h => by omega⟩
  | n + 1, h => by
    rw [sweepN_succ, sweepS] at h ⊢
    split at h
    · cases h
    · rename_i hc
      obtain ⟨e, hn⟩ := sweep_none n h
      rw [if_neg hc]
      refine ⟨e, fun t ht => ?_⟩
      rcases Nat.lt_succ_iff_lt_or_eq.1 ht with h' | rfl
      · exact hn t h'
      · rw [e] at hc; exact hc

theorem finZ_inv {P : MZ → Prop} (hs : ∀ m (t : Nat), P m → canZ m t = true → m.k < 20000 → P (stepZ m t).2) : ∀ (f : Nat) (m : MZ), P m → WF m → 20001 ≤ f + m.k → P (finZ f m) ∧ ∀ t, t < (finZ f m).ts.length → ¬ (canZ (finZ f m) (t : Int) = true ∧ (finZ f m).k < 20000)
  | 0, m, _, hw, h => by have := hw.k; omega
  | f + 1, m, hP, hw, h => by
    have hsw := sweepN_ok hw m.ts.length
    have hi := sweep_inv hs hP m.ts.length
    rw [finZ]
    split
    · rename_i hb
      have := hsw.up hb
      exact finZ_inv hs f _ hi hsw.wf (by omega)
    · rename_i hb
      have hb : (sweepN m m.ts.length).2 = false := by simpa using hb
      obtain ⟨e, hn⟩ := sweep_none _ hb
      rw [e]
      exact ⟨hP, hn⟩

theorem finish_inv {P : MZ → Prop} (hs : ∀ m (t : Nat), P m → canZ m t = true → m.k < 20000 → P (stepZ m t).2) {m : MZ} (hP : P m) (hw : WF m) : P (finish m) ∧ ∀ t, t < (finish m).ts.length → ¬ (canZ (finish m) (t : Int) = true ∧ (finish m).k < 20000) :=
  finZ_inv hs 20001 m hP hw (by omega)

/-- A step does nothing, or a thread that can goes on. -/
theorem step_or {m : MZ} (hw : WF m) (t : Int) : (stepZ m t).2 = m ∨ ∃ s : Nat, t = s ∧ canZ m s = true ∧ m.k < 20000 := by
  by_cases h1 : t < 0 ∨ (m.ts.length : Int) ≤ t
  · left; rw [stepZ, if_pos h1]
  by_cases h2 : (thZ m t.toNat).dn = true
  · left; rw [stepZ, if_neg h1, if_pos h2]
  by_cases h3 : asleepZ m t = true
  · left; rw [stepZ, if_neg h1, if_neg h2, if_pos h3]
  by_cases h4 : m.k = 20000
  · left; rw [stepZ, if_neg h1, if_neg h2, if_neg h3, if_pos h4]
  right
  obtain ⟨s, rfl⟩ := Int.eq_ofNat_of_zero_le (show 0 ≤ t by omega)
  refine ⟨s, rfl, ?_, by have := hw.k; omega⟩
  rw [Int.toNat_natCast] at h2
  rw [canZ, decide_eq_true (by omega)]
  simp [h2, h3]

theorem can_out {m : MZ} {t : Nat} (h : canZ m t = true) : ∃ x, m.ts[t]? = some x ∧ x.dn = false ∧ noT m.ss t := by
  simp only [canZ, Bool.and_eq_true, decide_eq_true_eq, Bool.not_eq_true', Int.toNat_natCast] at h
  obtain ⟨⟨h1, h2⟩, h3⟩ := h
  obtain ⟨x, hx⟩ : ∃ x, m.ts[t]? = some x := ⟨_, List.getElem?_eq_getElem (by omega)⟩
  refine ⟨x, hx, by rw [thZ_get hx] at h2; exact h2, fun s hs => ?_⟩
  rw [asleepZ, List.any_eq_false] at h3
  simpa using h3 s hs

theorem can_in {m : MZ} {t : Nat} {x : ThZ} (hx : m.ts[t]? = some x) (hd : x.dn = false) (hno : noT m.ss t) : canZ m t = true := by
  have := (List.getElem?_eq_some_iff.1 hx).1
  rw [canZ, decide_eq_true (by omega), Int.toNat_natCast, thZ_get hx, hd, asleep_no hno]
  rfl

/-- What a thread that can does. -/
theorem can_go {m : MZ} {t : Nat} {x : ThZ} {p : List InsZ} {i : InsZ} (hc : canZ m t = true) (hk : m.k < 20000) (hx : m.ts[t]? = some x) (hp : m.ps[t]? = some p) (hi : p[x.pc]? = some i) :
    (stepZ m t).2 = (doZ ({ m with k := m.k + 1 }.th t { x with pc := x.pc + 1 }) t { x with pc := x.pc + 1 } i).2 := by
  obtain ⟨y, hy, hd, hno⟩ := can_out hc
  rw [hx] at hy
  obtain rfl := Option.some.inj hy
  have hlt := (List.getElem?_eq_some_iff.1 hx).1
  rw [stepZ, if_neg (by omega), Int.toNat_natCast, thZ_get hx, if_neg (by rw [hd]; decide), asleep_no hno, if_neg (by decide), if_neg (by omega), goZ, onZ, thZ_get hx, insZ_get hp hi]

/-- A sum over threads. -/
def rsum (n : Nat) (g : Nat → Nat) : Nat := ((List.range n).map g).sum

theorem rsum_succ (n : Nat) (g : Nat → Nat) : rsum (n + 1) g = rsum n g + g n := by
  rw [rsum, List.range_succ, List.map_append, List.sum_append]
  simp [rsum]

theorem rsum_le {n : Nat} {g h : Nat → Nat} (hl : ∀ s, s < n → g s ≤ h s) : rsum n g ≤ rsum n h := by
  induction n with
  | zero => exact Nat.le_refl _
  | succ n ih =>
    rw [rsum_succ, rsum_succ]
    have := ih fun s hs => hl s (by omega)
    have := hl n (by omega)
    omega

theorem rsum_upd {n t : Nat} {g h : Nat → Nat} (ht : t < n) (hl : ∀ s, s < n → s ≠ t → g s ≤ h s) : rsum n g + h t ≤ rsum n h + g t := by
  induction n with
  | zero => omega
  | succ n ih =>
    rw [rsum_succ, rsum_succ]
    by_cases e : t = n
    · subst e
      have := rsum_le (n := t) (g := g) (h := h) fun s hs => hl s (by omega) (by omega)
      omega
    · have := ih (by omega) fun s hs hne => hl s (by omega) hne
      have := hl n (by omega) (by omega)
      omega

theorem rsum_const (n c : Nat) (g : Nat → Nat) (h : ∀ s, s < n → g s ≤ c) : rsum n g ≤ n * c := by
  induction n with
  | zero => simp [rsum]
  | succ n ih =>
    rw [rsum_succ, Nat.succ_mul]
    have := ih fun s hs => h s (by omega)
    have := h n (by omega)
    omega

theorem ts_set {m : MZ} {t s : Nat} {x y : ThZ} (hlt : t < m.ts.length) (h : (m.ts.set t y)[s]? = some x) : s = t ∧ x = y ∨ s ≠ t ∧ m.ts[s]? = some x := by
  by_cases e : t = s
  · subst e
    rw [List.getElem?_set_self hlt] at h
    exact .inl ⟨rfl, (Option.some.inj h).symm⟩
  · rw [List.getElem?_set_ne e] at h
    exact .inr ⟨fun h => e h.symm, h⟩

/-- Instructions in their place. -/
def relI (p : Int) (i : InsZ) : InsZ :=
  if i.op = 10 then { i with a := p + i.a } else if i.op = 11 ∨ i.op = 12 ∨ i.op = 13 then { i with c := p + i.c } else i

/-- One body so often. -/
def repU (B : List InsZ) : Nat → List InsZ
  | 0 => []
  | n + 1 => repU B n ++ B.map (relI (repU B n).length)

def repP (B : List InsZ) (n : Nat) : List InsZ := repU B n ++ [⟨0, 0, 0, 0, 0⟩]

theorem repU_len (B : List InsZ) : ∀ n, (repU B n).length = B.length * n
  | 0 => by simp [repU]
  | n + 1 => by rw [repU, List.length_append, repU_len B n, List.length_map, Nat.mul_succ]

theorem repP_len (B : List InsZ) (n : Nat) : (repP B n).length = B.length * n + 1 := by
  rw [repP, List.length_append, repU_len]; rfl

theorem repU_get (B : List InsZ) {j o : Nat} (ho : o < B.length) : ∀ n, j < n → (repU B n)[B.length * j + o]? = some (relI ((B.length * j : Nat) : Int) B[o])
  | 0, h => by omega
  | n + 1, h => by
    rw [repU]
    by_cases e : j = n
    · subst e
      rw [List.getElem?_append_right (by rw [repU_len]; omega), repU_len, Nat.add_sub_cancel_left, List.getElem?_map, List.getElem?_eq_getElem ho]
      rfl
    · have hlt : B.length * j + o < B.length * n := by
        have : B.length * (j + 1) ≤ B.length * n := Nat.mul_le_mul_left _ (by omega)
        rw [Nat.mul_succ] at this
        omega
      rw [List.getElem?_append_left (by rw [repU_len]; exact hlt)]
      exact repU_get B ho n (by omega)

theorem repP_get (B : List InsZ) {j o n : Nat} (ho : o < B.length) (hj : j < n) : (repP B n)[B.length * j + o]? = some (relI ((B.length * j : Nat) : Int) B[o]) := by
  have hlt : B.length * j + o < B.length * n := by
    have : B.length * (j + 1) ≤ B.length * n := Nat.mul_le_mul_left _ (by omega)
    rw [Nat.mul_succ] at this
    omega
  rw [repP, List.getElem?_append_left (by rw [repU_len]; exact hlt)]
  exact repU_get B ho n hj

theorem repP_halt (B : List InsZ) (n : Nat) : (repP B n)[B.length * n]? = some ⟨0, 0, 0, 0, 0⟩ := by
  rw [repP, List.getElem?_append_right (by rw [repU_len]; omega), repU_len, Nat.sub_self]
  rfl

/-- Who sleeps at one cell is woken, all of them. -/
theorem wakeL_all (c n : Int) : ∀ (l : List Slp) (k : Nat), (∀ s ∈ l, s.c = c) → ((k + l.length : Nat) : Int) ≤ n → (wakeL c n k l).2 = []
  | [], _, _, _ => rfl
  | x :: xs, k, h, hn => by
    rw [List.length_cons] at hn
    rw [wakeL, if_pos ⟨h x (by simp), by omega⟩]
    exact wakeL_all c n xs (k + 1) (fun s hs => h s (by simp [hs])) (by omega)

theorem wakeL_none (c n : Int) : ∀ (l : List Slp) (k : Nat), (∀ s ∈ l, s.c ≠ c) → (wakeL c n k l).2 = l
  | [], _, _ => rfl
  | x :: xs, k, h => by
    rw [wakeL, if_neg (fun h' => h x (by simp) h'.1)]
    exact congrArg (x :: ·) (wakeL_none c n xs k fun s hs => h s (by simp [hs]))

theorem nodup_len : ∀ (n : Nat) (l : List Int), l.Nodup → (∀ x ∈ l, 0 ≤ x ∧ x < n) → l.length ≤ n
  | 0, l, _, h => by
    cases l with
    | nil => simp
    | cons x l => have := h x (by simp); omega
  | n + 1, l, hd, h => by
    have h1 := nodup_len n (l.erase n) (hd.erase _) fun x hx => by
      have h2 := h x (List.mem_of_mem_erase hx)
      have h3 : x ≠ n := fun e => by subst e; exact hd.not_mem_erase hx
      omega
    have := List.length_erase (a := (n : Int)) (l := l)
    split at this <;> omega

theorem ss_len {m : MZ} (hw : WF m) : m.ss.length ≤ m.ts.length := by
  have := nodup_len m.ts.length (m.ss.map (·.t)) hw.ss.1 fun x hx => by
    obtain ⟨s, hs, rfl⟩ := List.mem_map.1 hx
    have := hw.ss.2 s hs
    omega
  simpa using this

end Go.Mac
end

/- Machines of threads on one cell, whose programs are made of bodies one behind the other: what a step does. -/
section
open Go Go.Proofs Go.Mac
set_option maxRecDepth 100000
namespace Go.Mac

/-- Bodies, one behind the other, from a place on. -/
def catU : Nat → List (List InsZ) → List InsZ
  | _, [] => []
  | p, b :: bs => b.map (relI p) ++ catU (p + b.length) bs

/-- Where the j-th body begins. -/
def offB (bs : List (List InsZ)) (j : Nat) : Nat := ((bs.take j).map List.length).sum

def catP (bs : List (List InsZ)) : List InsZ := catU 0 bs ++ [⟨0, 0, 0, 0, 0⟩]

theorem offB_cons (b : List InsZ) (bs : List (List InsZ)) (j : Nat) : offB (b :: bs) (j + 1) = b.length + offB bs j := by
  simp [offB]

theorem offB_succ {bs : List (List InsZ)} {j : Nat} {b : List InsZ} (h : bs[j]? = some b) : offB bs (j + 1) = offB bs j + b.length := by
  rw [offB, offB, List.take_add_one, h]
  simp

theorem catU_len : ∀ (p : Nat) (bs : List (List InsZ)), (catU p bs).length = offB bs bs.length
  | _, [] => rfl
  | p, b :: bs => by
    rw [catU, List.length_append, List.length_map, catU_len, List.length_cons, offB_cons]

theorem catU_get : ∀ (bs : List (List InsZ)) (p j o : Nat) (b : List InsZ) (i : InsZ), bs[j]? = some b → b[o]? = some i → (catU p bs)[offB bs j + o]? = some (relI ((p + offB bs j : Nat) : Int) i)
  | [], _, _, _, _, _, h, _ => by simp at h
  | c :: bs, p, 0, o, b, i, h, hi => by
    simp at h; subst h
    have ho := (List.getElem?_eq_some_iff.1 hi).1
    show (c.map (relI p) ++ catU (p + c.length) bs)[0 + o]? = some (relI ((p + 0 : Nat) : Int) i)
    rw [Nat.zero_add, List.getElem?_append_left (by simpa using ho), List.getElem?_map, hi]
    rfl
  | c :: bs, p, j + 1, o, b, i, h, hi => by
    rw [offB_cons, catU, List.getElem?_append_right (by simp; omega), List.length_map, show c.length + offB bs j + o - c.length = offB bs j + o by omega,
      catU_get bs (p + c.length) j o b i (by simpa using h) hi, Nat.add_assoc]

theorem catP_get {bs : List (List InsZ)} {j o : Nat} {b : List InsZ} {i : InsZ} (h : bs[j]? = some b) (hi : b[o]? = some i) : (catP bs)[offB bs j + o]? = some (relI ((offB bs j : Nat) : Int) i) := by
  have := catU_get bs 0 j o b i h hi
  rw [Nat.zero_add] at this
  rw [catP, List.getElem?_append_left (List.getElem?_eq_some_iff.1 this).1]
  exact this

theorem catP_halt (bs : List (List InsZ)) : (catP bs)[offB bs bs.length]? = some ⟨0, 0, 0, 0, 0⟩ := by
  rw [catP, List.getElem?_append_right (by rw [catU_len]; omega), catU_len, Nat.sub_self]
  rfl

/-- What an instruction does but for its thread and its cell. -/
inductive Eff where
  | no
  | act (o x y : Int)
  | sleep
  | wake (n : Int)
  | say (a x : Int)

def effS (t : Nat) (ss : List Slp) : Eff → List Slp
  | .sleep => ss ++ [⟨t, 0⟩]
  | .wake n => (wakeL 0 n 0 ss).2
  | _ => ss

def effA (k t : Nat) (al : List ActZ) : Eff → List ActZ
  | .act o x y => al ++ [⟨k, t, o, 0, x, y⟩]
  | _ => al

def effE (k t : Nat) (el : List EvZ) : Eff → List EvZ
  | .say a x => el ++ [⟨k, a, t, x⟩]
  | _ => el

/-- What an instruction does to a thread at its own place, and to the cell. -/
def nextZ (i : InsZ) (x : ThZ) (v : Int) : ThZ × Int × Eff :=
  match localZ { x with pc := x.pc + 1 } i with
  | some x' => (x', v, .no)
  | none =>
    if i.op = 6 then (⟨x.pc + 1, rgS x.rg i.a v, x.dn⟩, v, .act 6 v v)
    else if i.op = 8 then (⟨x.pc + 1, rgS x.rg i.a v, x.dn⟩, u64m (v + u64m i.c), .act 8 v (u64m (v + u64m i.c)))
    else if i.op = 9 then
      if v = rgZ x.rg i.c then (⟨x.pc + 1, rgS x.rg i.a 1, x.dn⟩, rgZ x.rg i.d, .act 9 v (rgZ x.rg i.d)) else (⟨x.pc + 1, rgS x.rg i.a 0, x.dn⟩, v, .act 9 v v)
    else if i.op = 14 then (⟨x.pc + 1, x.rg, x.dn⟩, v, if v = rgZ x.rg i.b then .sleep else .no)
    else if i.op = 16 then (⟨x.pc + 1, x.rg, x.dn⟩, v, .say i.a (IntKind.i64.wrap (rgZ x.rg i.b)))
    else if i.op = 15 then (⟨x.pc + 1, x.rg, x.dn⟩, v, .wake i.b)
    else (⟨x.pc + 1, x.rg, x.dn⟩, rgZ x.rg i.b, .act i.op v (rgZ x.rg i.b))

/-- An instruction on the one cell. -/
def oneC (i : InsZ) : Bool :=
  decide (i.op = 0 ∨ i.op = 1 ∨ i.op = 2 ∨ i.op = 3 ∨ i.op = 4 ∨ i.op = 5 ∨ (i.op = 10 ∧ 0 ≤ i.a) ∨ ((i.op = 11 ∨ i.op = 12 ∨ i.op = 13) ∧ 0 ≤ i.c) ∨ ((i.op = 6 ∨ i.op = 8 ∨ i.op = 9) ∧ i.b = 0) ∨ (i.op = 14 ∧ i.a = 0) ∨ i.op = 16 ∨ ((i.op = 7 ∨ i.op = 15) ∧ i.a = 0 ∧ i.c = -1))

def shT (p : Nat) (x : ThZ) : ThZ := { x with pc := p + x.pc }

theorem set2' {ts : List ThZ} {t : Nat} {a b : ThZ} : (ts.set t a).set t b = ts.set t b := List.set_set ..

theorem rel_local (p : Nat) (x : ThZ) (i : InsZ) (hi : oneC i = true) : localZ (shT p x) (relI p i) = (localZ x i).map (shT p) := by
  have hi := of_decide_eq_true hi
  obtain ⟨op, a, b, c, d⟩ := i
  dsimp only at hi
  rcases hi with rfl | rfl | rfl | rfl | rfl | rfl | ⟨rfl, h⟩ | ⟨rfl | rfl | rfl, h⟩ | ⟨rfl | rfl | rfl, h⟩ | ⟨rfl, h⟩ | rfl | ⟨rfl | rfl, h⟩ <;> try rfl
  · show some { x with pc := ((p : Int) + a).toNat } = some { x with pc := p + a.toNat }
    rw [show ((p : Int) + a).toNat = p + a.toNat by omega]
  · show some (if _ then { x with pc := ((p : Int) + c).toNat } else { x with pc := p + x.pc }) = some (shT p (if _ then _ else _))
    rw [show ((p : Int) + c).toNat = p + c.toNat by omega]
    show some (if rgZ x.rg a = u64m b then { x with pc := p + c.toNat } else { x with pc := p + x.pc }) = some (shT p (if rgZ x.rg a = u64m b then _ else _))
    split <;> rfl
  · show some (if _ then { x with pc := ((p : Int) + c).toNat } else { x with pc := p + x.pc }) = some (shT p (if _ then _ else _))
    rw [show ((p : Int) + c).toNat = p + c.toNat by omega]
    show some (if rgZ x.rg a < rgZ x.rg b then { x with pc := p + c.toNat } else { x with pc := p + x.pc }) = some (shT p (if rgZ x.rg a < rgZ x.rg b then _ else _))
    split <;> rfl
  · show some (if _ then { x with pc := ((p : Int) + c).toNat } else { x with pc := p + x.pc }) = some (shT p (if _ then _ else _))
    rw [show ((p : Int) + c).toNat = p + c.toNat by omega]
    show some (if rgZ x.rg a = rgZ x.rg b then { x with pc := p + c.toNat } else { x with pc := p + x.pc }) = some (shT p (if rgZ x.rg a = rgZ x.rg b then _ else _))
    split <;> rfl

/-- What a thread that can go on does, on one cell. -/
theorem one_go {m : MZ} {t p : Nat} {x : ThZ} {pr : List InsZ} {i : InsZ} {v : Int} (hw : WF m) (hws : m.ws = [v]) (hc : canZ m t = true) (hk : m.k < 20000) (hx : m.ts[t]? = some (shT p x)) (hp : m.ps[t]? = some pr) (hpi : pr[p + x.pc]? = some (relI p i)) (hi : oneC i = true) :
    (stepZ m t).2 = ⟨m.ps, m.ts.set t (shT p (nextZ i x v).1), [(nextZ i x v).2.1], effS t m.ss (nextZ i x v).2.2, effA (m.k + 1) t m.al (nextZ i x v).2.2, effE (m.k + 1) t m.el (nextZ i x v).2.2, m.k + 1, m.nc⟩ := by
  have hnc := hw.nc
  obtain ⟨ps, ts, ws, ss, al, el, k, nc⟩ := m
  dsimp only at hws hnc
  subst hws
  obtain rfl : 1 = nc := hnc
  refine (can_go hc hk hx hp hpi).trans ?_
  have hl := rel_local p { x with pc := x.pc + 1 } i hi
  have hi := of_decide_eq_true hi
  rw [doZ]
  have e : ({ shT p x with pc := (shT p x).pc + 1 } : ThZ) = shT p { x with pc := x.pc + 1 } := rfl
  rw [e, hl, nextZ]
  cases hloc : localZ { x with pc := x.pc + 1 } i with
  | some x' => exact congrArg (fun l => MZ.mk ps l [v] ss al el (k + 1) 1) set2'
  | none =>
    obtain ⟨op, a, b, c, d⟩ := i
    dsimp only at hi
    rcases hi with rfl | rfl | rfl | rfl | rfl | rfl | ⟨rfl, h⟩ | ⟨rfl | rfl | rfl, h⟩ | ⟨rfl | rfl | rfl, h⟩ | ⟨rfl, h⟩ | rfl | ⟨rfl | rfl, h⟩ <;> try (cases hloc; done)
    · subst h; exact congrArg (fun l => MZ.mk ps l [v] ss (al ++ [⟨(k + 1 : Nat), t, 6, 0, v, v⟩]) el (k + 1) 1) set2'
    · subst h; exact congrArg (fun l => MZ.mk ps l [u64m (v + u64m c)] ss (al ++ [⟨(k + 1 : Nat), t, 8, 0, v, u64m (v + u64m c)⟩]) el (k + 1) 1) set2'
    · subst h
      by_cases hv : v = rgZ x.rg c
      · have e2 : nextZ ⟨9, a, 0, c, d⟩ x v = (⟨x.pc + 1, rgS x.rg a 1, x.dn⟩, rgZ x.rg d, .act 9 v (rgZ x.rg d)) := by
          show (if v = rgZ x.rg c then _ else _) = _
          rw [if_pos hv]
        rw [nextZ, hloc] at e2
        dsimp only at e2 ⊢
        rw [e2]
        show (match (if v = rgZ x.rg c then some _ else some _ : Option MZ) with | some m' => ((0 : Int), m') | none => _).2 = _
        rw [if_pos hv]
        exact congrArg (fun l => MZ.mk ps l [rgZ x.rg d] ss (al ++ [⟨(k + 1 : Nat), t, 9, 0, v, rgZ x.rg d⟩]) el (k + 1) 1) set2'
      · have e2 : nextZ ⟨9, a, 0, c, d⟩ x v = (⟨x.pc + 1, rgS x.rg a 0, x.dn⟩, v, .act 9 v v) := by
          show (if v = rgZ x.rg c then _ else _) = _
          rw [if_neg hv]
        rw [nextZ, hloc] at e2
        dsimp only at e2 ⊢
        rw [e2]
        show (match (if v = rgZ x.rg c then some _ else some _ : Option MZ) with | some m' => ((0 : Int), m') | none => _).2 = _
        rw [if_neg hv]
        exact congrArg (fun l => MZ.mk ps l [v] ss (al ++ [⟨(k + 1 : Nat), t, 9, 0, v, v⟩]) el (k + 1) 1) set2'
    · subst h
      show (match (some (if v = rgZ x.rg b then MZ.mk ps (ts.set t (shT p { x with pc := x.pc + 1 })) [v] (ss ++ [(⟨(t : Int), 0⟩ : Slp)]) al el (k + 1) 1 else MZ.mk ps (ts.set t (shT p { x with pc := x.pc + 1 })) [v] ss al el (k + 1) 1) : Option MZ) with | some m' => ((0 : Int), m') | none => (13, MZ.th (MZ.th (MZ.mk ps ts [v] ss al el (k + 1) 1) t (shT p { x with pc := x.pc + 1 })) t { shT p { x with pc := x.pc + 1 } with dn := true })).2 = MZ.mk _ _ _ (effS t ss (if v = rgZ x.rg b then .sleep else .no)) (effA (k + 1) t al (if v = rgZ x.rg b then .sleep else .no)) (effE (k + 1) t el (if v = rgZ x.rg b then .sleep else .no)) _ _
      by_cases hv : v = rgZ x.rg b
      · rw [if_pos hv, if_pos hv]; rfl
      · rw [if_neg hv, if_neg hv]; rfl
    · rfl
    · obtain ⟨rfl, rfl⟩ := h; rfl
    · obtain ⟨rfl, rfl⟩ := h; rfl

/-- Where a thread is: in which body, and there. -/
structure GZ where
  j : Nat
  y : ThZ

def conc (bs : List (List InsZ)) (g : GZ) : ThZ := shT (offB bs g.j) g.y

def insG (bs : List (List InsZ)) (g : GZ) : Option InsZ :=
  match bs[g.j]? with
  | some b => b[g.y.pc]?
  | none => if g.j = bs.length ∧ g.y.pc = 0 then some ⟨0, 0, 0, 0, 0⟩ else none

def normG (bs : List (List InsZ)) (g : GZ) : GZ :=
  match bs[g.j]? with
  | some b => if g.y.pc = b.length then ⟨g.j + 1, { g.y with pc := 0 }⟩ else g
  | none => g

theorem conc_norm (bs : List (List InsZ)) (g : GZ) : conc bs (normG bs g) = conc bs g := by
  rw [normG]
  split
  · rename_i b hb
    split
    · rename_i h
      show ThZ.mk (offB bs (g.j + 1) + 0) _ _ = ThZ.mk (offB bs g.j + g.y.pc) _ _
      rw [offB_succ hb, h]; rfl
    · rfl
  · rfl

theorem insG_get {bs : List (List InsZ)} {g : GZ} {i : InsZ} (h : insG bs g = some i) : (catP bs)[offB bs g.j + g.y.pc]? = some (relI ((offB bs g.j : Nat) : Int) i) := by
  rw [insG] at h
  split at h
  · rename_i b hb
    exact catP_get hb h
  · rename_i hb
    split at h
    · rename_i h2
      obtain rfl := Option.some.inj h
      rw [h2.1, h2.2, Nat.add_zero]
      exact catP_halt bs
    · cases h

def updG (gs : Nat → GZ) (t : Nat) (g : GZ) : Nat → GZ := fun s => if s = t then g else gs s

theorem updG_same (gs : Nat → GZ) (t : Nat) (g : GZ) : updG gs t g t = g := by rw [updG, if_pos rfl]
theorem updG_ne (gs : Nat → GZ) {t s : Nat} (g : GZ) (h : s ≠ t) : updG gs t g s = gs s := by rw [updG, if_neg h]

/-- A machine on one cell, and where its threads are. -/
structure Sys (n : Nat) (bs : Nat → List (List InsZ)) (gs : Nat → GZ) (v : Int) (m : MZ) : Prop where
  wf : WF m
  ln : m.ts.length = n
  ps : ∀ t, t < n → m.ps[t]? = some (catP (bs t))
  ws : m.ws = [v]
  ts : ∀ t, t < n → m.ts[t]? = some (conc (bs t) (gs t))

theorem Sys.can {n : Nat} {bs : Nat → List (List InsZ)} {gs : Nat → GZ} {v : Int} {m : MZ} (h : Sys n bs gs v m) {t : Nat} (hc : canZ m t = true) : t < n ∧ (gs t).y.dn = false ∧ noT m.ss t := by
  obtain ⟨x, hx, hd, hno⟩ := can_out hc
  have ht : t < n := by rw [← h.ln]; exact (List.getElem?_eq_some_iff.1 hx).1
  rw [h.ts t ht] at hx
  obtain rfl := Option.some.inj hx
  exact ⟨ht, hd, hno⟩

theorem Sys.go {n : Nat} {bs : Nat → List (List InsZ)} {gs : Nat → GZ} {v : Int} {m : MZ} (h : Sys n bs gs v m) {t : Nat} {i : InsZ} (hc : canZ m t = true) (hk : m.k < 20000) (hi : insG (bs t) (gs t) = some i) (ho : oneC i = true)
    {y' : ThZ} {v' : Int} {e : Eff} (hn : nextZ i (gs t).y v = (y', v', e)) :
    Sys n bs (updG gs t (normG (bs t) ⟨(gs t).j, y'⟩)) v' (stepZ m t).2 ∧ (stepZ m t).2.ss = effS t m.ss e ∧ (stepZ m t).2.al = effA (m.k + 1) t m.al e ∧ (stepZ m t).2.el = effE (m.k + 1) t m.el e ∧ (stepZ m t).2.k = m.k + 1 := by
  obtain ⟨ht, hd, hno⟩ := h.can hc
  have e1 := one_go (p := offB (bs t) (gs t).j) (x := (gs t).y) (pr := catP (bs t)) h.wf h.ws hc hk (h.ts t ht) (h.ps t ht) (insG_get hi) ho
  rw [hn] at e1
  have hw := h.wf.step t
  rw [e1] at hw ⊢
  refine ⟨⟨hw, by rw [← h.ln]; exact List.length_set, h.ps, rfl, fun s hs => ?_⟩, rfl, rfl, rfl, rfl⟩
  by_cases hst : s = t
  · subst hst
    rw [updG_same, conc_norm]
    exact List.getElem?_set_self (by rw [h.ln]; exact hs)
  · rw [updG_ne _ _ hst]
    show (m.ts.set t _)[s]? = _
    rw [List.getElem?_set_ne (fun h => hst h.symm)]
    exact h.ts s hs

theorem Sys.poke {n : Nat} {bs : Nat → List (List InsZ)} {gs : Nat → GZ} {v : Int} {m : MZ} (h : Sys n bs gs v m) (t : Int) : Sys n bs gs v (pokeZ m t) := ⟨h.wf.poke t, h.ln, h.ps, h.ws, h.ts⟩

end Go.Mac
end

/- Machines of threads on some cells, whose programs are made of bodies one behind the other: what a step does. -/
section
open Go Go.Proofs Go.Mac
set_option maxRecDepth 100000
namespace Go.Mac

/-- What an instruction does but for its thread and the cells. -/
inductive EffW where
  | no
  | act (o : Int) (c : Nat) (x y : Int)
  | sleep (c : Nat)
  | wake (c : Nat) (n : Int)
  | say (a x : Int)

def effWS (t : Nat) (ss : List Slp) : EffW → List Slp
  | .sleep c => ss ++ [⟨t, c⟩]
  | .wake c n => (wakeL c n 0 ss).2
  | _ => ss

def effWA (k t : Nat) (al : List ActZ) : EffW → List ActZ
  | .act o c x y => al ++ [⟨k, t, o, c, x, y⟩]
  | _ => al

def effWE (k t : Nat) (el : List EvZ) : EffW → List EvZ
  | .say a x => el ++ [⟨k, a, t, x⟩]
  | _ => el

/-- What an instruction does to a thread at its own place, and to the cells. -/
def nextW (i : InsZ) (x : ThZ) (ws : List Int) : ThZ × List Int × EffW :=
  match localZ { x with pc := x.pc + 1 } i with
  | some x' => (x', ws, .no)
  | none =>
    if i.op = 6 then (⟨x.pc + 1, rgS x.rg i.a (rgZ ws i.b), x.dn⟩, ws, .act 6 i.b.toNat (rgZ ws i.b) (rgZ ws i.b))
    else if i.op = 8 then (⟨x.pc + 1, rgS x.rg i.a (rgZ ws i.b), x.dn⟩, rgS ws i.b (u64m (rgZ ws i.b + u64m i.c)), .act 8 i.b.toNat (rgZ ws i.b) (u64m (rgZ ws i.b + u64m i.c)))
    else if i.op = 9 then
      if rgZ ws i.b = rgZ x.rg i.c then (⟨x.pc + 1, rgS x.rg i.a 1, x.dn⟩, rgS ws i.b (rgZ x.rg i.d), .act 9 i.b.toNat (rgZ ws i.b) (rgZ x.rg i.d)) else (⟨x.pc + 1, rgS x.rg i.a 0, x.dn⟩, ws, .act 9 i.b.toNat (rgZ ws i.b) (rgZ ws i.b))
    else if i.op = 14 then (⟨x.pc + 1, x.rg, x.dn⟩, ws, if rgZ ws i.a = rgZ x.rg i.b then .sleep i.a.toNat else .no)
    else if i.op = 16 then (⟨x.pc + 1, x.rg, x.dn⟩, ws, .say i.a (IntKind.i64.wrap (rgZ x.rg i.b)))
    else if i.op = 15 then (⟨x.pc + 1, x.rg, x.dn⟩, ws, .wake ((offZ x i).getD 0).toNat i.b)
    else (⟨x.pc + 1, x.rg, x.dn⟩, rgS ws ((offZ x i).getD 0) (rgZ x.rg i.b), .act i.op ((offZ x i).getD 0).toNat (rgZ ws ((offZ x i).getD 0)) (rgZ x.rg i.b))

/-- An instruction on cells that there are. -/
def cellsC (nc : Nat) (x : ThZ) (i : InsZ) : Prop :=
  i.op = 0 ∨ i.op = 1 ∨ i.op = 2 ∨ i.op = 3 ∨ i.op = 4 ∨ i.op = 5 ∨ (i.op = 10 ∧ 0 ≤ i.a) ∨ ((i.op = 11 ∨ i.op = 12 ∨ i.op = 13) ∧ 0 ≤ i.c) ∨ ((i.op = 6 ∨ i.op = 8 ∨ i.op = 9) ∧ 0 ≤ i.b) ∨ (i.op = 14 ∧ 0 ≤ i.a) ∨ i.op = 16 ∨ ((i.op = 7 ∨ i.op = 15) ∧ ∃ c : Nat, offZ x i = some (c : Int) ∧ c < nc)

theorem rel_localW (p : Nat) (x : ThZ) (i : InsZ) {nc : Nat} {y : ThZ} (hi : cellsC nc y i) : localZ (shT p x) (relI p i) = (localZ x i).map (shT p) := by
  obtain ⟨op, a, b, c, d⟩ := i
  unfold cellsC at hi
  dsimp only at hi
  rcases hi with rfl | rfl | rfl | rfl | rfl | rfl | ⟨rfl, h⟩ | ⟨rfl | rfl | rfl, h⟩ | ⟨rfl | rfl | rfl, h⟩ | ⟨rfl, h⟩ | rfl | ⟨rfl | rfl, h⟩ <;> try rfl
  · show some { x with pc := ((p : Int) + a).toNat } = some { x with pc := p + a.toNat }
    rw [show ((p : Int) + a).toNat = p + a.toNat by omega]
  · show some (if _ then { x with pc := ((p : Int) + c).toNat } else { x with pc := p + x.pc }) = some (shT p (if _ then _ else _))
    rw [show ((p : Int) + c).toNat = p + c.toNat by omega]
    show some (if rgZ x.rg a = u64m b then { x with pc := p + c.toNat } else { x with pc := p + x.pc }) = some (shT p (if rgZ x.rg a = u64m b then _ else _))
    split <;> rfl
  · show some (if _ then { x with pc := ((p : Int) + c).toNat } else { x with pc := p + x.pc }) = some (shT p (if _ then _ else _))
    rw [show ((p : Int) + c).toNat = p + c.toNat by omega]
    show some (if rgZ x.rg a < rgZ x.rg b then { x with pc := p + c.toNat } else { x with pc := p + x.pc }) = some (shT p (if rgZ x.rg a < rgZ x.rg b then _ else _))
    split <;> rfl
  · show some (if _ then { x with pc := ((p : Int) + c).toNat } else { x with pc := p + x.pc }) = some (shT p (if _ then _ else _))
    rw [show ((p : Int) + c).toNat = p + c.toNat by omega]
    show some (if rgZ x.rg a = rgZ x.rg b then { x with pc := p + c.toNat } else { x with pc := p + x.pc }) = some (shT p (if rgZ x.rg a = rgZ x.rg b then _ else _))
    split <;> rfl

/-- What a thread that can go on does. -/
theorem many_go {m : MZ} {t p : Nat} {x : ThZ} {pr : List InsZ} {i : InsZ} (hc : canZ m t = true) (hk : m.k < 20000) (hx : m.ts[t]? = some (shT p x)) (hp : m.ps[t]? = some pr) (hpi : pr[p + x.pc]? = some (relI p i)) (hi : cellsC m.nc x i) :
    (stepZ m t).2 = ⟨m.ps, m.ts.set t (shT p (nextW i x m.ws).1), (nextW i x m.ws).2.1, effWS t m.ss (nextW i x m.ws).2.2, effWA (m.k + 1) t m.al (nextW i x m.ws).2.2, effWE (m.k + 1) t m.el (nextW i x m.ws).2.2, m.k + 1, m.nc⟩ := by
  refine (can_go hc hk hx hp hpi).trans ?_
  have hl := rel_localW p { x with pc := x.pc + 1 } i hi
  clear hc hk hx hp hpi
  obtain ⟨ps, ts, ws, ss, al, el, k, nc⟩ := m
  rw [doZ]
  have e : ({ shT p x with pc := (shT p x).pc + 1 } : ThZ) = shT p { x with pc := x.pc + 1 } := rfl
  rw [e, hl, nextW]
  cases hloc : localZ { x with pc := x.pc + 1 } i with
  | some x' => exact congrArg (fun l => MZ.mk ps l ws ss al el (k + 1) nc) set2'
  | none =>
    obtain ⟨op, a, b, c, d⟩ := i
    unfold cellsC at hi
    dsimp only at hi
    rcases hi with rfl | rfl | rfl | rfl | rfl | rfl | ⟨rfl, h⟩ | ⟨rfl | rfl | rfl, h⟩ | ⟨rfl | rfl | rfl, h⟩ | ⟨rfl, h⟩ | rfl | ⟨rfl | rfl, c0, h, hc0⟩ <;> try (cases hloc; done)
    · obtain ⟨b, rfl⟩ := Int.eq_ofNat_of_zero_le h
      exact congrArg (fun l => MZ.mk ps l ws ss (al ++ [⟨(k + 1 : Nat), t, 6, b, rgZ ws b, rgZ ws b⟩]) el (k + 1) nc) set2'
    · obtain ⟨b, rfl⟩ := Int.eq_ofNat_of_zero_le h
      exact congrArg (fun l => MZ.mk ps l (rgS ws b (u64m (rgZ ws b + u64m c))) ss (al ++ [⟨(k + 1 : Nat), t, 8, b, rgZ ws b, u64m (rgZ ws b + u64m c)⟩]) el (k + 1) nc) set2'
    · obtain ⟨b, rfl⟩ := Int.eq_ofNat_of_zero_le h
      by_cases hv : rgZ ws (b : Int) = rgZ x.rg c
      · have e2 : nextW ⟨9, a, (b : Int), c, d⟩ x ws = (⟨x.pc + 1, rgS x.rg a 1, x.dn⟩, rgS ws b (rgZ x.rg d), .act 9 b (rgZ ws b) (rgZ x.rg d)) := by
          show (if rgZ ws (b : Int) = rgZ x.rg c then _ else _) = _
          rw [if_pos hv]
          rfl
        rw [nextW, hloc] at e2
        dsimp only at e2 ⊢
        rw [e2]
        show (match (if rgZ ws (b : Int) = rgZ x.rg c then some _ else some _ : Option MZ) with | some m' => ((0 : Int), m') | none => _).2 = _
        rw [if_pos hv]
        exact congrArg (fun l => MZ.mk ps l (rgS ws b (rgZ x.rg d)) ss (al ++ [⟨(k + 1 : Nat), t, 9, b, rgZ ws b, rgZ x.rg d⟩]) el (k + 1) nc) set2'
      · have e2 : nextW ⟨9, a, (b : Int), c, d⟩ x ws = (⟨x.pc + 1, rgS x.rg a 0, x.dn⟩, ws, .act 9 b (rgZ ws b) (rgZ ws b)) := by
          show (if rgZ ws (b : Int) = rgZ x.rg c then _ else _) = _
          rw [if_neg hv]
          rfl
        rw [nextW, hloc] at e2
        dsimp only at e2 ⊢
        rw [e2]
        show (match (if rgZ ws (b : Int) = rgZ x.rg c then some _ else some _ : Option MZ) with | some m' => ((0 : Int), m') | none => _).2 = _
        rw [if_neg hv]
        exact congrArg (fun l => MZ.mk ps l ws ss (al ++ [⟨(k + 1 : Nat), t, 9, b, rgZ ws b, rgZ ws b⟩]) el (k + 1) nc) set2'
    · obtain ⟨a, rfl⟩ := Int.eq_ofNat_of_zero_le h
      by_cases hv : rgZ ws (a : Int) = rgZ x.rg b
      · have e2 : nextW ⟨14, (a : Int), b, c, d⟩ x ws = (⟨x.pc + 1, x.rg, x.dn⟩, ws, .sleep a) := by
          show ((⟨x.pc + 1, x.rg, x.dn⟩ : ThZ), ws, if rgZ ws (a : Int) = rgZ x.rg b then EffW.sleep (Int.toNat (a : Int)) else EffW.no) = _
          rw [if_pos hv]
          rfl
        rw [nextW, hloc] at e2
        dsimp only at e2 ⊢
        rw [e2]
        have e3 : farZ (({ (MZ.mk ps ts ws ss al el k nc) with k := k + 1 } : MZ).th t (shT p { x with pc := x.pc + 1 })) t (shT p { x with pc := x.pc + 1 }) (relI p ⟨14, (a : Int), b, c, d⟩) = some (MZ.mk ps (ts.set t (shT p { x with pc := x.pc + 1 })) ws (ss ++ [(⟨(t : Int), (a : Int)⟩ : Slp)]) al el (k + 1) nc) := by
          show some (if rgZ ws (a : Int) = rgZ x.rg b then _ else _) = _
          rw [if_pos hv]
          rfl
        dsimp only [Option.map_none]
        rw [e3]
        rfl
      · have e2 : nextW ⟨14, (a : Int), b, c, d⟩ x ws = (⟨x.pc + 1, x.rg, x.dn⟩, ws, .no) := by
          show ((⟨x.pc + 1, x.rg, x.dn⟩ : ThZ), ws, if rgZ ws (a : Int) = rgZ x.rg b then EffW.sleep (Int.toNat (a : Int)) else EffW.no) = _
          rw [if_neg hv]
        rw [nextW, hloc] at e2
        dsimp only at e2 ⊢
        rw [e2]
        have e3 : farZ (({ (MZ.mk ps ts ws ss al el k nc) with k := k + 1 } : MZ).th t (shT p { x with pc := x.pc + 1 })) t (shT p { x with pc := x.pc + 1 }) (relI p ⟨14, (a : Int), b, c, d⟩) = some (MZ.mk ps (ts.set t (shT p { x with pc := x.pc + 1 })) ws ss al el (k + 1) nc) := by
          show some (if rgZ ws (a : Int) = rgZ x.rg b then _ else _) = _
          rw [if_neg hv]
          rfl
        dsimp only [Option.map_none]
        rw [e3]
        rfl
    · rfl
    · have ho : offZ (shT p { x with pc := x.pc + 1 }) (relI p ⟨7, a, b, c, d⟩) = some (c0 : Int) := h
      have e2 : farZ (({ (MZ.mk ps ts ws ss al el k nc) with k := k + 1 } : MZ).th t (shT p { x with pc := x.pc + 1 })) t (shT p { x with pc := x.pc + 1 }) (relI p ⟨7, a, b, c, d⟩) = some (MZ.mk ps (ts.set t (shT p { x with pc := x.pc + 1 })) (rgS ws c0 (rgZ x.rg b)) ss (al ++ [⟨(k + 1 : Nat), t, 7, c0, rgZ ws c0, rgZ x.rg b⟩]) el (k + 1) nc) := by
        show (match offZ (shT p { x with pc := x.pc + 1 }) (relI p ⟨7, a, b, c, d⟩) with | none => none | some c => if c < (nc : Int) then _ else none) = _
        rw [ho]
        dsimp only
        rw [if_pos (by omega)]
        rfl
      dsimp only [Option.map_none]
      rw [e2]
      show MZ.mk _ _ _ _ _ _ _ _ = MZ.mk _ _ (rgS ws ((offZ x ⟨7, a, b, c, d⟩).getD 0) (rgZ x.rg b)) _ (al ++ [⟨_, _, _, (((offZ x ⟨7, a, b, c, d⟩).getD 0).toNat : Nat), rgZ ws ((offZ x ⟨7, a, b, c, d⟩).getD 0), _⟩]) _ _ _
      rw [h]
      rfl
    · have ho : offZ (shT p { x with pc := x.pc + 1 }) (relI p ⟨15, a, b, c, d⟩) = some (c0 : Int) := h
      have e2 : farZ (({ (MZ.mk ps ts ws ss al el k nc) with k := k + 1 } : MZ).th t (shT p { x with pc := x.pc + 1 })) t (shT p { x with pc := x.pc + 1 }) (relI p ⟨15, a, b, c, d⟩) = some (MZ.mk ps (ts.set t (shT p { x with pc := x.pc + 1 })) ws (wakeL c0 b 0 ss).2 al el (k + 1) nc) := by
        show (match offZ (shT p { x with pc := x.pc + 1 }) (relI p ⟨15, a, b, c, d⟩) with | none => none | some c => if c < (nc : Int) then _ else none) = _
        rw [ho]
        dsimp only
        rw [if_pos (by omega)]
        rfl
      dsimp only [Option.map_none]
      rw [e2]
      show MZ.mk _ _ _ _ _ _ _ _ = MZ.mk _ _ _ (wakeL (((offZ x ⟨15, a, b, c, d⟩).getD 0).toNat : Nat) b 0 ss).2 _ _ _ _
      rw [h]
      rfl

/-- A machine on some cells, and where its threads are. -/
structure SysW (n nc : Nat) (bs : Nat → List (List InsZ)) (gs : Nat → GZ) (ws : List Int) (m : MZ) : Prop where
  wf : WF m
  ln : m.ts.length = n
  nk : m.nc = nc
  ps : ∀ t, t < n → m.ps[t]? = some (catP (bs t))
  ws : m.ws = ws
  ts : ∀ t, t < n → m.ts[t]? = some (conc (bs t) (gs t))

section
variable {n nc : Nat} {bs : Nat → List (List InsZ)} {gs : Nat → GZ} {ws : List Int} {m : MZ}

theorem SysW.can (h : SysW n nc bs gs ws m) {t : Nat} (hc : canZ m t = true) : t < n ∧ (gs t).y.dn = false ∧ noT m.ss t := by
  obtain ⟨x, hx, hd, hno⟩ := can_out hc
  have ht : t < n := by rw [← h.ln]; exact (List.getElem?_eq_some_iff.1 hx).1
  rw [h.ts t ht] at hx
  obtain rfl := Option.some.inj hx
  exact ⟨ht, hd, hno⟩

theorem SysW.go (h : SysW n nc bs gs ws m) {t : Nat} {i : InsZ} (hc : canZ m t = true) (hk : m.k < 20000) (hi : insG (bs t) (gs t) = some i) (ho : cellsC nc (gs t).y i)
    {y' : ThZ} {ws' : List Int} {e : EffW} (hn : nextW i (gs t).y ws = (y', ws', e)) :
    SysW n nc bs (updG gs t (normG (bs t) ⟨(gs t).j, y'⟩)) ws' (stepZ m t).2 ∧ (stepZ m t).2.ss = effWS t m.ss e ∧ (stepZ m t).2.al = effWA (m.k + 1) t m.al e ∧ (stepZ m t).2.el = effWE (m.k + 1) t m.el e ∧ (stepZ m t).2.k = m.k + 1 := by
  obtain ⟨ht, hd, hno⟩ := h.can hc
  have e1 := many_go (p := offB (bs t) (gs t).j) (x := (gs t).y) (pr := catP (bs t)) hc hk (h.ts t ht) (h.ps t ht) (insG_get hi) (by rw [h.nk]; exact ho)
  rw [h.ws, hn] at e1
  have hw := h.wf.step t
  rw [e1] at hw ⊢
  refine ⟨⟨hw, by rw [← h.ln]; exact List.length_set, h.nk, h.ps, rfl, fun s hs => ?_⟩, rfl, rfl, rfl, rfl⟩
  by_cases hst : s = t
  · subst hst
    rw [updG_same, conc_norm]
    exact List.getElem?_set_self (by rw [h.ln]; exact hs)
  · rw [updG_ne _ _ hst]
    show (m.ts.set t _)[s]? = _
    rw [List.getElem?_set_ne (fun h => hst h.symm)]
    exact h.ts s hs

theorem SysW.poke (h : SysW n nc bs gs ws m) (t : Int) : SysW n nc bs gs ws (pokeZ m t) := ⟨h.wf.poke t, h.ln, h.nk, h.ps, h.ws, h.ts⟩

end

end Go.Mac
end
