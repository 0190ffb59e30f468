/- The machine of threads: what holds of it holds behind a step. -/
import Derived.Test.YtondghnbecnpiaaDoorQMachStep
open Go Go.Proofs Go.Mac
namespace Go.Mac

def rgok (r : List Int) : Prop := r.length = 8 ∧ ∀ v ∈ r, 0 ≤ v ∧ v < 18446744073709551616

theorem u64m_lt (x : Int) : 0 ≤ u64m x ∧ u64m x < 18446744073709551616 := by
  rw [u64m, wrap_u64_mod]
  exact ⟨Int.emod_nonneg _ (by decide), Int.emod_lt_of_pos _ (by decide)⟩

theorem rgZ_ok {r : List Int} (h : ∀ v ∈ r, 0 ≤ v ∧ v < 18446744073709551616) (j : Int) : 0 ≤ rgZ r j ∧ rgZ r j < 18446744073709551616 := by
  rw [rgZ, List.getD_eq_getElem?_getD]
  cases h' : r[j.toNat]? with
  | none => decide
  | some y => exact h y (List.mem_of_getElem? h')

theorem rgS_ok {r : List Int} (h : ∀ v ∈ r, 0 ≤ v ∧ v < 18446744073709551616) {j w : Int} (hw : 0 ≤ w ∧ w < 18446744073709551616) : ∀ v ∈ rgS r j w, 0 ≤ v ∧ v < 18446744073709551616 := fun v hv => by
  rcases List.mem_or_eq_of_mem_set hv with hv | rfl
  · exact h v hv
  · exact hw

theorem rgok_set {r : List Int} (h : rgok r) {j w : Int} (hw : 0 ≤ w ∧ w < 18446744073709551616) : rgok (rgS r j w) := ⟨rgS_len.trans h.1, rgS_ok h.2 hw⟩

/-- A thread's state that may be, in a program of so many instructions. -/
def thok (size : Nat) (x : ThZ) : Prop := rgok x.rg ∧ x.pc ≤ size ∧ (x.dn = false → x.pc < size)

theorem loc_ok {nc size : Int} {n : Nat} {x x' : ThZ} {i : InsZ} (hs : size = n) (hi : okI nc size i = true) (hr : rgok x.rg) (hl : localZ x i = some x') (hpc : x.pc ≤ n) (hnx : i.op ≠ 0 → i.op ≠ 10 → x.pc < n) : thok n x' := by
  obtain ⟨op, a, b, c, d⟩ := i
  obtain ⟨hop, f0, f1, f2, f3⟩ := okI_cut hi
  dsimp only at hnx
  have key : op = 0 ∨ op = 1 ∨ op = 2 ∨ op = 3 ∨ op = 4 ∨ op = 5 ∨ op = 10 ∨ op = 11 ∨ op = 12 ∨ op = 13 ∨ (op = 6 ∨ op = 7 ∨ op = 8 ∨ op = 9 ∨ op = 14 ∨ op = 15 ∨ op = 16) := by omega
  rcases key with rfl | rfl | rfl | rfl | rfl | rfl | rfl | rfl | rfl | rfl | h
  · obtain rfl := Option.some.inj hl
    exact ⟨hr, hpc, fun h => by cases h⟩
  · obtain rfl := Option.some.inj hl
    exact ⟨rgok_set hr (u64m_lt _), hpc, fun _ => hnx (by decide) (by decide)⟩
  · obtain rfl := Option.some.inj hl
    exact ⟨rgok_set hr (rgZ_ok hr.2 _), hpc, fun _ => hnx (by decide) (by decide)⟩
  · obtain rfl := Option.some.inj hl
    exact ⟨rgok_set hr (u64m_lt _), hpc, fun _ => hnx (by decide) (by decide)⟩
  · obtain rfl := Option.some.inj hl
    exact ⟨rgok_set hr (u64m_lt _), hpc, fun _ => hnx (by decide) (by decide)⟩
  · obtain rfl := Option.some.inj hl
    exact ⟨rgok_set hr (u64m_lt _), hpc, fun _ => hnx (by decide) (by decide)⟩
  · obtain rfl := Option.some.inj hl
    have := fit4 f0
    exact ⟨hr, by show a.toNat ≤ n; omega, fun _ => by show a.toNat < n; omega⟩
  · have := fit4 f2
    have hx : (if rgZ x.rg a = u64m b then ({ x with pc := c.toNat } : ThZ) else x) = x' := Option.some.inj hl
    subst hx
    split
    · exact ⟨hr, by show c.toNat ≤ n; omega, fun _ => by show c.toNat < n; omega⟩
    · exact ⟨hr, hpc, fun _ => hnx (by decide) (by decide)⟩
  · have := fit4 f2
    have hx : (if rgZ x.rg a < rgZ x.rg b then ({ x with pc := c.toNat } : ThZ) else x) = x' := Option.some.inj hl
    subst hx
    split
    · exact ⟨hr, by show c.toNat ≤ n; omega, fun _ => by show c.toNat < n; omega⟩
    · exact ⟨hr, hpc, fun _ => hnx (by decide) (by decide)⟩
  · have := fit4 f2
    have hx : (if rgZ x.rg a = rgZ x.rg b then ({ x with pc := c.toNat } : ThZ) else x) = x' := Option.some.inj hl
    subst hx
    split
    · exact ⟨hr, by show c.toNat ≤ n; omega, fun _ => by show c.toNat < n; omega⟩
    · exact ⟨hr, hpc, fun _ => hnx (by decide) (by decide)⟩
  · exfalso
    rcases h with rfl | rfl | rfl | rfl | rfl | rfl | rfl <;> simp [localZ] at hl

variable {m : MZ}

theorem WF.th (hw : WF m) {t : Nat} {x : ThZ} {p : List InsZ} (hp : m.ps[t]? = some p) (hx : thok p.length x) : WF (m.th t x) := by
  have hlen : (m.th t x).ts.length = m.ts.length := List.length_set
  refine ⟨hw.ps.trans hlen.symm, by rw [hlen]; exact hw.n, hw.right, fun y hy => ?_, fun j y q hj hq => ?_, hw.nc, hw.ws, ⟨hw.ss.1, fun s hs => by rw [hlen]; exact hw.ss.2 s hs⟩, hw.al, hw.el, hw.k, hw.sl⟩
  · rcases List.mem_or_eq_of_mem_set hy with hy | rfl
    · exact hw.rg y hy
    · exact hx.1
  · by_cases e : t = j
    · subst e
      have hlt : t < m.ts.length := by have := (List.getElem?_eq_some_iff.1 hp).1; have := hw.ps; omega
      have : y = x := by
        have h1 : (m.ts.set t x)[t]? = some y := hj
        rw [List.getElem?_set_self hlt] at h1
        exact (Option.some.inj h1).symm
      subst this
      rw [show m.ps[t]? = some q from hq] at hp
      obtain rfl := Option.some.inj hp
      exact hx.2
    · have h1 : (m.ts.set t x)[j]? = some y := hj
      rw [List.getElem?_set_ne e] at h1
      exact hw.pc j y q h1 hq

theorem WF.act (hw : WF m) (hal : m.al.length < m.k) (t o c x y : Int) : WF (m.act t o c x y) :=
  ⟨hw.ps, hw.n, hw.right, hw.rg, hw.pc, hw.nc, hw.ws, hw.ss, by show (m.al ++ [_]).length ≤ m.k; simp; omega, hw.el, hw.k, hw.sl⟩

theorem WF.cell (hw : WF m) {c w : Int} (hv : 0 ≤ w ∧ w < 18446744073709551616) : WF { m with ws := rgS m.ws c w } :=
  ⟨hw.ps, hw.n, hw.right, hw.rg, hw.pc, rgS_len.trans hw.nc, ⟨by show (rgS m.ws c w).length ≤ 300; rw [rgS_len]; exact hw.ws.1, rgS_ok hw.ws.2 hv⟩, hw.ss, hw.al, hw.el, hw.k, hw.sl⟩

theorem wakeL_mem (c n : Int) : ∀ (l : List Slp) (k : Nat), (wakeL c n k l).2.Sublist l
  | [], _ => List.Sublist.slnil
  | x :: xs, k => by
    rw [wakeL]
    split
    · exact (wakeL_mem c n xs (k + 1)).cons _
    · exact (wakeL_mem c n xs k).cons_cons _

theorem WF.sleepers (hw : WF m) {ss : List Slp} (h1 : (ss.map (·.t)).Nodup) (h2 : ∀ s ∈ ss, 0 ≤ s.t ∧ s.t < m.ts.length ∧ 0 ≤ s.c ∧ s.c < m.nc) (h3 : ss.length ≤ m.k) : WF { m with ss := ss } :=
  ⟨hw.ps, hw.n, hw.right, hw.rg, hw.pc, hw.nc, hw.ws, ⟨h1, h2⟩, hw.al, hw.el, hw.k, h3⟩

theorem far_ok (hw : WF m) (hal : m.al.length < m.k) (hel : m.el.length < m.k) (hsl : m.ss.length < m.k) {t : Nat} {x : ThZ} {i : InsZ} {p : List InsZ} {size : Int} (hx : m.ts[t]? = some x) (hd : x.dn = false) (hp : m.ps[t]? = some p) (hi : okI m.nc size i = true) (hno : noT m.ss t)
    {m' : MZ} (hf : farZ m t x i = some m') (hl : localZ x i = none) : WF m' := by
  obtain ⟨op, a, b, c, d⟩ := i
  obtain ⟨hop, f0, f1, f2, f3⟩ := okI_cut hi
  have hr : rgok x.rg := hw.rg x (List.mem_of_getElem? hx)
  have htl := (List.getElem?_eq_some_iff.1 hx).1
  obtain ⟨hpc1, hpc2⟩ := hw.pc t x p hx hp
  have hth : ∀ (j w : Int), 0 ≤ w ∧ w < 18446744073709551616 → WF (m.th t { x with rg := rgS x.rg j w }) := fun j w hv => hw.th hp ⟨rgok_set hr hv, hpc1, fun _ => hpc2 hd⟩
  have hwz : ∀ j, 0 ≤ rgZ m.ws j ∧ rgZ m.ws j < 18446744073709551616 := fun j => rgZ_ok hw.ws.2 j
  have key : op = 6 ∨ op = 8 ∨ op = 9 ∨ op = 14 ∨ op = 16 ∨ op = 7 ∨ op = 15 := by
    by_cases o6 : op = 6
    · omega
    by_cases o8 : op = 8
    · omega
    by_cases o9 : op = 9
    · omega
    by_cases o14 : op = 14
    · omega
    by_cases o16 : op = 16
    · omega
    have := far_op hop hl o6 o8 o9 o14 o16
    omega
  rcases key with rfl | rfl | rfl | rfl | rfl | ho
  · obtain rfl := Option.some.inj hf
    exact (hth a _ (hwz b)).act hal _ _ _ _ _
  · obtain rfl := Option.some.inj hf
    exact ((hth a _ (hwz b)).cell (u64m_lt _)).act hal _ _ _ _ _
  · by_cases hs : rgZ m.ws b = rgZ x.rg c
    · have : farZ m t x ⟨9, a, b, c, d⟩ = some _ := if_pos hs
      rw [this] at hf
      obtain rfl := Option.some.inj hf
      exact ((hth a 1 (by decide)).cell (rgZ_ok hr.2 d)).act hal _ _ _ _ _
    · have : farZ m t x ⟨9, a, b, c, d⟩ = some _ := if_neg hs
      rw [this] at hf
      obtain rfl := Option.some.inj hf
      exact (hth a 0 (by decide)).act hal _ _ _ _ _
  · have hf' : (if rgZ m.ws a = rgZ x.rg b then ({ m with ss := m.ss ++ [⟨t, a⟩] } : MZ) else m) = m' := Option.some.inj hf
    subst hf'
    split
    · have hb := fit2 f0
      refine hw.sleepers ?_ (fun s hs => ?_) (by simp; omega)
      · rw [List.map_append, List.nodup_append]
        refine ⟨hw.ss.1, by simp, fun y hy z hz => ?_⟩
        simp at hz
        subst hz
        obtain ⟨s, hs, rfl⟩ := List.mem_map.1 hy
        exact hno s hs
      · rcases List.mem_append.1 hs with hs | hs
        · exact hw.ss.2 s hs
        · simp at hs
          subst hs
          exact ⟨by show (0 : Int) ≤ (t : Int); omega, by show (t : Int) < _; omega, hb.1, hb.2⟩
    · exact hw
  · obtain rfl := Option.some.inj hf
    exact ⟨hw.ps, hw.n, hw.right, hw.rg, hw.pc, hw.nc, hw.ws, hw.ss, hw.al, by show (m.el ++ [_]).length ≤ m.k; simp; omega, hw.k, hw.sl⟩
  · have hfar : farZ m t x ⟨op, a, b, c, d⟩ = match offZ x ⟨op, a, b, c, d⟩ with
      | none => none
      | some c => if c < m.nc then
          if op = 15 then some { m with ss := (wakeL c b 0 m.ss).2 }
          else some ({ m with ws := rgS m.ws c (rgZ x.rg b) }.act t op c (rgZ m.ws c) (rgZ x.rg b))
        else none := by rcases ho with rfl | rfl <;> rfl
    rw [hfar] at hf
    cases hoff : offZ x ⟨op, a, b, c, d⟩ with
    | none => rw [hoff] at hf; cases hf
    | some z =>
      rw [hoff] at hf
      dsimp only at hf
      by_cases h1 : z < m.nc
      · rw [if_pos h1] at hf
        by_cases h2 : op = 15
        · rw [if_pos h2] at hf
          obtain rfl := Option.some.inj hf
          have hsub := wakeL_mem z b m.ss 0
          exact hw.sleepers ((hsub.map _).nodup hw.ss.1) (fun s hs => hw.ss.2 s (hsub.subset hs)) (by have := hsub.length_le; omega)
        · rw [if_neg h2] at hf
          obtain rfl := Option.some.inj hf
          exact (hw.cell (rgZ_ok hr.2 b)).act hal _ _ _ _ _
      · rw [if_neg h1] at hf; cases hf

theorem lastOp_at {p : List InsZ} {i : InsZ} {k : Nat} (hi : p[k]? = some i) (hk : k + 1 = p.length) : lastOp p = i.op := by
  rw [lastOp, List.getLast?_eq_getElem?, show p.length - 1 = k by omega, hi]
  rfl

theorem not_asleep {t : Int} (h : asleepZ m t = false) : noT m.ss t := fun s hs e => by
  have := List.any_eq_false.1 h s hs
  simp [e] at this

theorem WF.go (hw : WF m) {t : Nat} (ht : t < m.ts.length) (hd : (thZ m t).dn = false) (hs : asleepZ m t = false) (hk : m.k < 20000) : WF (goZ m t).2 := by
  obtain ⟨x, hx⟩ : ∃ x, m.ts[t]? = some x := ⟨_, List.getElem?_eq_getElem ht⟩
  obtain ⟨p, hp⟩ : ∃ p, m.ps[t]? = some p := ⟨_, List.getElem?_eq_getElem (by have := hw.ps; omega)⟩
  have hth : thZ m t = x := thZ_get hx
  rw [hth] at hd
  obtain ⟨hpc1, hpc2⟩ := hw.pc t x p hx hp
  have hpc := hpc2 hd
  obtain ⟨i, hi⟩ : ∃ i, p[x.pc]? = some i := ⟨_, List.getElem?_eq_getElem hpc⟩
  have hr : rgok x.rg := hw.rg x (List.mem_of_getElem? hx)
  have hok := hw.okI (List.mem_of_getElem? hp) (List.mem_of_getElem? hi)
  have hnx : i.op ≠ 0 → i.op ≠ 10 → x.pc + 1 < p.length := fun h0 h10 => by
    refine Classical.byContradiction fun hn => ?_
    have h1 := lastOp_at hi (by omega)
    have h2 := hw.right p (List.mem_of_getElem? hp)
    simp only [rightZ, h1, Bool.and_eq_true, Bool.or_eq_true, beq_iff_eq] at h2
    rcases h2.2 with h | h
    · exact h0 h
    · exact h10 h
  have hw1 : WF { m with k := m.k + 1 } := ⟨hw.ps, hw.n, hw.right, hw.rg, hw.pc, hw.nc, hw.ws, hw.ss, by have := hw.al; show m.al.length ≤ m.k + 1; omega, by have := hw.el; show m.el.length ≤ m.k + 1; omega, by show m.k + 1 ≤ 20000; omega, by have := hw.sl; show m.ss.length ≤ m.k + 1; omega⟩
  have hset : ∀ y : ThZ, (onZ m t).th t y = { m with k := m.k + 1 }.th t y := fun y => by
    show ({ ps := m.ps, ts := (m.ts.set t _).set t y, ws := m.ws, ss := m.ss, al := m.al, el := m.el, k := m.k + 1, nc := m.nc } : MZ) = _
    rw [List.set_set]
    rfl
  rw [goZ, doZ, hth, insZ_get hp hi]
  cases hl : localZ { x with pc := x.pc + 1 } i with
  | some x' =>
    dsimp only
    rw [hset]
    exact hw1.th hp (loc_ok (x := { x with pc := x.pc + 1 }) rfl hok hr hl (by show x.pc + 1 ≤ _; omega) hnx)
  | none =>
    dsimp only
    have ho : i.op ≠ 0 ∧ i.op ≠ 10 := by
      constructor
      · intro e
        rw [localZ, if_pos e] at hl
        cases hl
      · intro e
        simp [localZ, e] at hl
    have hw2 : WF (onZ m t) := by
      rw [onZ, hth]
      exact hw1.th hp ⟨hr, by show x.pc + 1 ≤ _; omega, fun _ => hnx ho.1 ho.2⟩
    cases hf : farZ (onZ m t) t { x with pc := x.pc + 1 } i with
    | some m' =>
      dsimp only
      have hal := hw.al
      have hel := hw.el
      have hsl := hw.sl
      exact far_ok hw2 (by show m.al.length < m.k + 1; omega) (by show m.el.length < m.k + 1; omega) (by show m.ss.length < m.k + 1; omega) (x := { x with pc := x.pc + 1 }) (p := p) (by rw [onZ, hth]; exact List.getElem?_set_self ht) hd hp hok (not_asleep hs) hf hl
    | none =>
      dsimp only
      rw [hset]
      exact hw1.th hp ⟨hr, by show x.pc + 1 ≤ _; omega, fun h => by cases h⟩

theorem WF.step (hw : WF m) (t : Int) : WF (stepZ m t).2 := by
  unfold stepZ
  split
  · exact hw
  · rename_i h1
    split
    · exact hw
    · rename_i h2
      split
      · exact hw
      · rename_i h3
        split
        · exact hw
        · rename_i h4
          have := hw.k
          exact hw.go (by omega) (by simpa using h2) (by rw [show ((t.toNat : Nat) : Int) = t by omega]; simpa using h3) (by omega)

end Go.Mac
