/- Threads that fetch and add; that load, and store; that want to be the first: what holds, whoever goes on when. -/
import Derived.Test.YtlimhldkkbaohaaDoorQWay
import Derived.Test.YtlimhldkkbaohaaDoorQSemaE
import Derived.Test.YtlimhldkkbaohaaDoorQRwS
open Go Go.Proofs Go.Mac
set_option maxRecDepth 100000
namespace Go.Mac

theorem all_done {n nc : Nat} {bs : Nat → List (List InsZ)} {gs : Nat → GZ} {ws : List Int} {z : MZ} (h : SysW n nc bs gs ws z) (hss : z.ss = []) (hno : ∀ t, t < z.ts.length → canZ z (t : Int) = false) {t : Nat} (ht : t < n) : (gs t).y.dn = true := by
  rcases h.stop hno ht with hd | ⟨s, hs, _⟩
  · exact hd
  · rw [hss] at hs; cases hs

theorem poke_none {m : MZ} (h : m.ss = []) (t : Int) : (pokeZ m t).ss = [] := by
  show m.ss.filter _ = []
  rw [h]; rfl

/-! ### Fetch and add -/

abbrev fetB : List InsZ := [⟨8, 1, 0, 1, 0⟩, ⟨16, 3, 1, 0, 0⟩]
def fetU (_ : Unit) : List InsZ := fetB
abbrev fetL (c : Nat) : List (List InsZ) := (List.replicate c ()).map fetU

def FetG (c : Nat) (g : GZ) : Prop :=
  ∃ r1 : Int, g.y.rg = [0, r1, 0, 0, 0, 0, 0, 0] ∧ (g.y.dn = true ∧ g.j = c ∨ g.y.dn = false ∧ (g.j < c ∧ (g.y.pc = 0 ∨ g.y.pc = 1 ∧ 0 ≤ r1 ∧ r1 < 1000) ∨ g.j = c ∧ g.y.pc = 0))

def fetN (g : GZ) : Nat := g.j + if g.y.dn = false ∧ g.y.pc = 1 then 1 else 0
def fetH (x : Int) (g : GZ) : Nat := if g.y.dn = false ∧ g.y.pc = 1 ∧ rgZ g.y.rg 1 = x then 1 else 0
def fetP (c : Nat) (g : GZ) : Nat := if g.y.dn = true then 0 else 2 * (c - g.j) + 1 - g.y.pc

structure FetJ (B n c : Nat) (gs : Nat → GZ) (W : Nat) (m : MZ) : Prop where
  sys : SysW n 1 (fun _ => fetL c) gs [(W : Int)] m
  hn : n ≤ 16 ∧ c ≤ 8
  th : ∀ t, t < n → FetG c (gs t)
  ss : m.ss = []
  w : W = rsum n fun t => fetN (gs t)
  el : m.el.length = rsum n fun t => (gs t).j
  cnt : ∀ x : Int, (m.el.map (·.v)).count x + rsum n (fun t => fetH x (gs t)) = if 0 ≤ x ∧ x < W then 1 else 0
  pot : m.k + rsum n (fun t => fetP c (gs t)) ≤ B

section
variable {B n c W : Nat} {gs : Nat → GZ} {m : MZ}

theorem fet_upd (h : FetJ B n c gs W m) {t : Nat} (hc : canZ m t = true) (hk : m.k < 20000) {g g' : GZ} (hgt : gs t = g) {W' : Nat} {e : EffW} (hl : LS 1 (fetL c) g [(W : Int)] g' [(W' : Int)] e) (hT : FetG c g')
    (hss : effWS t m.ss e = m.ss) (hw : W' + fetN g = W + fetN g') (hel : (effWE (m.k + 1) t m.el e).length + g.j = m.el.length + g'.j)
    (hcnt : ∀ x, ((effWE (m.k + 1) t m.el e).map (·.v)).count x + fetH x g' + (if 0 ≤ x ∧ x < (W : Int) then 1 else 0) = (m.el.map (·.v)).count x + fetH x g + (if 0 ≤ x ∧ x < (W' : Int) then 1 else 0))
    (hp : fetP c g' + 1 ≤ fetP c g) : ∃ gs' W', FetJ B n c gs' W' (stepZ m t).2 := by
  obtain ⟨ht, hdn, hno⟩ := h.sys.can hc
  obtain ⟨hs, e1, e2, e3, e4⟩ := h.sys.ls hc hk hgt hl
  have r1 := rsum_set (n := n) (gs := gs) (g := g) (fun _ g => fetN g) (g' := g') ht hgt
  have r2 := rsum_set (n := n) (gs := gs) (g := g) (fun _ g => g.j) (g' := g') ht hgt
  have r3 := fun x => rsum_set (n := n) (gs := gs) (g := g) (fun _ g => fetH x g) (g' := g') ht hgt
  have r4 := rsum_set (n := n) (gs := gs) (g := g) (fun _ g => fetP c g) (g' := g') ht hgt
  have q1 := h.w
  have q2 := h.el
  have q3 := h.cnt
  have q4 := h.pot
  try dsimp only at r1 r2 r3 r4
  refine ⟨updG gs t g', W', hs, h.hn, fun s hsn => ?_, by rw [e1, hss]; exact h.ss, by omega, by rw [e3]; omega, fun x => ?_, by rw [e4]; omega⟩
  · by_cases hst : s = t
    · subst hst; rw [updG_same]; exact hT
    · rw [updG_ne _ _ hst]; exact h.th s hsn
  · rw [e3]
    have := r3 x
    have := q3 x
    have := hcnt x
    omega

theorem fet_step (h : FetJ B n c gs W m) {t : Nat} (hc : canZ m t = true) (hk : m.k < 20000) : ∃ gs' W', FetJ B n c gs' W' (stepZ m t).2 := by
  obtain ⟨ht, hd, hno⟩ := h.sys.can hc
  obtain ⟨g, hgt⟩ : ∃ g, gs t = g := ⟨_, rfl⟩
  obtain ⟨r1, hrg, hcase⟩ := h.th t ht
  obtain ⟨hn16, hc8⟩ := h.hn
  have hW : W ≤ n * 9 := by
    rw [h.w]
    refine rsum_const _ _ _ fun s hs => ?_
    obtain ⟨_, _, q | ⟨_, q | q⟩⟩ := h.th s hs <;> (rw [fetN]; split <;> omega)
  rw [hgt] at hd hrg hcase
  obtain ⟨j, o, rg, dn⟩ := g
  dsimp only at hd hrg hcase
  subst hd hrg
  rcases hcase with ⟨h1, _⟩ | ⟨_, ⟨hj, rfl | ⟨rfl, h0, h1⟩⟩ | ⟨rfl, rfl⟩⟩
  · cases h1
  · have hb : (List.replicate c ())[j]? = some () := by rw [List.getElem?_replicate, if_pos hj]
    have hw1 : u64m ((W : Int) + u64m 1) = ((W + 1 : Nat) : Int) := wrap_u64 ((W : Int) + 1) (by omega) (by omega)
    have hn1 : nextW ⟨8, 1, 0, 1, 0⟩ ⟨0, [0, r1, 0, 0, 0, 0, 0, 0], false⟩ [(W : Int)] = (⟨1, [0, (W : Int), 0, 0, 0, 0, 0, 0], false⟩, [((W + 1 : Nat) : Int)], .act 8 0 (W : Int) ((W + 1 : Nat) : Int)) := by
      rw [← hw1]; rfl
    refine fet_upd h hc hk hgt (W' := W + 1) (LS.inn hb rfl (cellK_ok (by decide)) hn1 (by decide)) ⟨_, rfl, .inr ⟨rfl, .inl ⟨hj, .inr ⟨rfl, by omega, by omega⟩⟩⟩⟩ rfl ?_ rfl (fun x => ?_) ?_
    · simp [fetN] <;> omega
    · show (m.el.map (·.v)).count x + (if (false : Bool) = false ∧ 1 = 1 ∧ (W : Int) = x then 1 else 0) + _ = (m.el.map (·.v)).count x + (if (false : Bool) = false ∧ 0 = 1 ∧ r1 = x then 1 else 0) + _
      simp only [true_and]
      repeat' split
      all_goals omega
    · simp [fetP] <;> omega
  · have hb : (List.replicate c ())[j]? = some () := by rw [List.getElem?_replicate, if_pos hj]
    refine fet_upd h hc hk hgt (W' := W) (LS.out (o' := 2) (rg' := [0, r1, 0, 0, 0, 0, 0, 0]) hb (i := ⟨16, 3, 1, 0, 0⟩) rfl (cellK_ok (by decide)) rfl rfl) ⟨_, rfl, .inr ⟨rfl, ?_⟩⟩ rfl ?_ ?_ (fun x => ?_) ?_
    · by_cases hj1 : j + 1 < c
      · exact .inl ⟨hj1, .inl rfl⟩
      · exact .inr ⟨by show j + 1 = c; omega, rfl⟩
    · simp [fetN]
    · show (m.el ++ [_]).length + j = m.el.length + (j + 1)
      rw [List.length_append, List.length_singleton]; omega
    · show ((m.el ++ [(⟨((m.k + 1 : Nat) : Int), 3, (t : Int), IntKind.i64.wrap r1⟩ : EvZ)]).map (·.v)).count x + (if (false : Bool) = false ∧ 0 = 1 ∧ r1 = x then 1 else 0) + _ = (m.el.map (·.v)).count x + (if (false : Bool) = false ∧ 1 = 1 ∧ r1 = x then 1 else 0) + _
      rw [List.map_append, List.count_append, wrap_i64 r1 (by omega) (by omega)]
      by_cases hx : r1 = x
      · subst hx; simp
      · simp [hx]
    · simp [fetP]; omega
  · refine fet_upd h hc hk hgt (W' := W) (LS.halt (by simp)) ⟨_, rfl, .inl ⟨rfl, rfl⟩⟩ rfl ?_ rfl (fun x => ?_) ?_
    · simp [fetN]
    · show (m.el.map (·.v)).count x + (if (true : Bool) = false ∧ 1 = 1 ∧ r1 = x then 1 else 0) + _ = (m.el.map (·.v)).count x + (if (false : Bool) = false ∧ 0 = 1 ∧ r1 = x then 1 else 0) + _
      simp
    · simp [fetP]

def FetI (B n c : Nat) (m : MZ) : Prop := ∃ gs W, FetJ B n c gs W m

theorem FetI.step (h : FetI B n c m) (t : Int) : FetI B n c (stepZ m t).2 := by
  obtain ⟨gs, v, h⟩ := h
  rcases step_or h.sys.wf t with e | ⟨s, rfl, hc, hk⟩
  · rw [e]; exact ⟨gs, v, h⟩
  · exact fet_step h hc hk

theorem FetI.poke (h : FetI B n c m) (t : Int) : FetI B n c (pokeZ m t) := by
  obtain ⟨gs, v, h⟩ := h
  exact ⟨gs, v, h.sys.poke t, h.hn, h.th, poke_none h.ss t, h.w, h.el, h.cnt, h.pot⟩

end

theorem fet_right {c : Nat} (hc : c ≤ 8) : rightZ (catP (fetL c)) 1 = true := by
  refine catP_right (by decide) (fun b hb => ?_) ?_
  · obtain ⟨_, _, rfl⟩ := List.mem_map.1 hb
    show ∀ i ∈ fetB, okI 1 ((2 : Int) + 1) i = true
    decide
  · have := offB_le (n := 2) (fetL c) (fun b hb => by obtain ⟨_, _, rfl⟩ := List.mem_map.1 hb; exact Nat.le_refl 2) (fetL c).length
    rw [List.length_map, List.length_replicate] at this ⊢
    omega

theorem same_ts {n : Nat} {p : List InsZ} {t : Nat} (ht : t < n) : (mz0 (List.replicate n p) [0]).ts[t]? = some th0 := by
  show (List.replicate (List.replicate n p).length th0)[t]? = _
  rw [List.length_replicate, List.getElem?_replicate, if_pos ht]

theorem same_sys {n : Nat} {bs : List (List InsZ)} (hn : n ≤ 16) (hr : rightZ (catP bs) 1 = true) : SysW n 1 (fun _ => bs) (fun _ => ⟨0, th0⟩) [0] (mz0 (List.replicate n (catP bs)) [0]) := by
  refine ⟨mz0_wf (by simp; omega) (by simp) (fun p hp => ?_) (by simp), by simp [mz0], rfl, fun t ht => ?_, rfl, fun t ht => ?_⟩
  · obtain rfl := (List.mem_replicate.1 hp).2
    exact hr
  · show (List.replicate n _)[t]? = _
    rw [List.getElem?_replicate, if_pos ht]
  · rw [same_ts ht]; rfl

theorem fet_init {n c : Nat} (hn : n ≤ 16) (hc : c ≤ 8) : FetJ 272 n c (fun _ => ⟨0, th0⟩) 0 (mz0 (List.replicate n (catP (fetL c))) [0]) := by
  refine ⟨same_sys hn (fet_right hc), ⟨hn, hc⟩, fun t ht => ?_, rfl, ?_, ?_, fun x => ?_, ?_⟩
  · refine ⟨0, rfl, .inr ⟨rfl, ?_⟩⟩
    by_cases h0 : 0 < c
    · exact .inl ⟨h0, .inl rfl⟩
    · exact .inr ⟨by show 0 = c; omega, rfl⟩
  · exact (rsum_zero (n := n) (g := fun _ => fetN ⟨0, th0⟩) fun _ _ => rfl).symm
  · rw [rsum_zero fun _ _ => rfl]; rfl
  · rw [rsum_zero (n := n) (g := fun _ => fetH x ⟨0, th0⟩) fun _ _ => rfl, if_neg (by omega)]
    rfl
  · have h1 : rsum n (fun _ => fetP c ⟨0, th0⟩) ≤ n * 17 := rsum_const _ _ _ fun t ht => by
      show 2 * (c - 0) + 1 - 0 ≤ 17
      omega
    have h2 : n * 17 ≤ 16 * 17 := Nat.mul_le_mul_right _ hn
    show 0 + _ ≤ 272
    omega

/-- In the end: all are added, and each found another number. -/
theorem fet_fin {n c : Nat} (hn : n ≤ 16) (hc : c ≤ 8) (ms : List MoveZ) : ∃ z, finish (movesZ (mz0 (List.replicate n (catP (fetL c))) [0]) ms) = z ∧ z.ws = [((n * c : Nat) : Int)] ∧ z.el.length = n * c ∧ ((z.el.map (·.v)).Nodup) := by
  have h0 : FetI 272 n c (movesZ (mz0 (List.replicate n (catP (fetL c))) [0]) ms) :=
    moves_inv (P := fun _ m => FetI 272 n c m) (fun i m t h => h.step t) (fun i m t h => h.poke t) ms 0 _ ⟨_, _, fet_init hn hc⟩
  have hw : WF (movesZ (mz0 (List.replicate n (catP (fetL c))) [0]) ms) := by obtain ⟨_, _, h⟩ := h0; exact h.sys.wf
  obtain ⟨⟨gs, W, h1⟩, hno⟩ := fin_stop (P := FetI 272 n c) (fun m t h => h.step t) (fun m h => by obtain ⟨_, _, h⟩ := h; have := h.pot; omega) h0 hw
  refine ⟨_, rfl, ?_⟩
  generalize finish (movesZ (mz0 (List.replicate n (catP (fetL c))) [0]) ms) = z at h1 hno
  have hd := fun t (ht : t < n) => all_done h1.sys h1.ss hno ht
  have hj : ∀ t, t < n → (gs t).j = c := fun t ht => by
    obtain ⟨_, _, q | ⟨q, _⟩⟩ := h1.th t ht
    · exact q.2
    · rw [hd t ht] at q; cases q
  have hs : rsum n (fun t => (gs t).j) = n * c := by
    have a1 := rsum_le (n := n) (g := fun t => (gs t).j) (h := fun _ => 0 + c) fun s hs => by rw [hj s hs]; omega
    have a2 := rsum_le (n := n) (h := fun t => (gs t).j) (g := fun _ => 0 + c) fun s hs => by rw [hj s hs]; omega
    rw [rsum_plus, rsum_zero fun _ _ => rfl] at a1 a2
    omega
  have hN : rsum n (fun t => fetN (gs t)) = n * c := by
    rw [← hs]
    have a1 := rsum_le (n := n) (g := fun t => fetN (gs t)) (h := fun t => (gs t).j) fun s hs => by rw [fetN, if_neg (by rw [hd s hs]; simp)]; omega
    have a2 := rsum_le (n := n) (h := fun t => fetN (gs t)) (g := fun t => (gs t).j) fun s hs => by rw [fetN, if_neg (by rw [hd s hs]; simp)]; omega
    omega
  have hW : W = n * c := by rw [h1.w, hN]
  refine ⟨by rw [h1.sys.ws, hW], by rw [h1.el, hs], ?_⟩
  rw [List.nodup_iff_count]
  intro x
  have := h1.cnt x
  split at this <;> omega

/-! ### Load, and store -/

abbrev losB : List InsZ := [⟨6, 1, 0, 0, 0⟩, ⟨3, 1, 1, 1, 0⟩, ⟨7, 0, 1, -1, 0⟩]
def losU (_ : Unit) : List InsZ := losB
abbrev losL : List (List InsZ) := (List.replicate 1 ()).map losU

def LosG (S : Nat) (g : GZ) : Prop :=
  ∃ r1 : Int, g.y.rg = [0, r1, 0, 0, 0, 0, 0, 0] ∧ (g.y.dn = true ∧ g.j = 1 ∨ g.y.dn = false ∧ (g.j = 0 ∧ (g.y.pc = 0 ∨ g.y.pc = 1 ∧ 0 ≤ r1 ∧ r1 ≤ S ∨ g.y.pc = 2 ∧ 1 ≤ r1 ∧ r1 ≤ S + 1) ∨ g.j = 1 ∧ g.y.pc = 0))

def losP (g : GZ) : Nat := if g.y.dn = true then 0 else if g.j = 0 then 4 - g.y.pc else 1

structure LosJ (B n : Nat) (gs : Nat → GZ) (v : Int) (m : MZ) : Prop where
  sys : SysW n 1 (fun _ => losL) gs [v] m
  hn : n ≤ 16
  th : ∀ t, t < n → LosG (rsum n fun t => (gs t).j) (gs t)
  ss : m.ss = []
  v0 : 0 ≤ v ∧ v ≤ rsum n (fun t => (gs t).j) ∧ (1 ≤ rsum n (fun t => (gs t).j) → 1 ≤ v)
  pot : m.k + rsum n (fun t => losP (gs t)) ≤ B

section
variable {B n : Nat} {v : Int} {gs : Nat → GZ} {m : MZ}

theorem LosG.mono {S S' : Nat} {g : GZ} (h : LosG S g) (hs : S ≤ S') : LosG S' g := by
  obtain ⟨r1, h1, h2 | ⟨h2, ⟨h3, h4⟩ | h3⟩⟩ := h
  · exact ⟨r1, h1, .inl h2⟩
  · exact ⟨r1, h1, .inr ⟨h2, .inl ⟨h3, by omega⟩⟩⟩
  · exact ⟨r1, h1, .inr ⟨h2, .inr h3⟩⟩

theorem los_upd (h : LosJ B n gs v m) {t : Nat} (hc : canZ m t = true) (hk : m.k < 20000) {g g' : GZ} (hgt : gs t = g) {v' : Int} {e : EffW} (hl : LS 1 losL g [v] g' [v'] e) (hj : g.j ≤ g'.j)
    (hT : ∀ S, S + g.j = rsum n (fun t => (gs t).j) + g'.j → LosG S g') (hss : effWS t m.ss e = m.ss) (hv : (v' = v ∧ g'.j = g.j) ∨ 1 ≤ v' ∧ v' ≤ rsum n (fun t => (gs t).j) + 1 ∧ g'.j = g.j + 1) (hp : losP g' + 1 ≤ losP g) : ∃ gs' v', LosJ B n gs' v' (stepZ m t).2 := by
  obtain ⟨ht, hdn, hno⟩ := h.sys.can hc
  obtain ⟨hs, e1, e2, e3, e4⟩ := h.sys.ls hc hk hgt hl
  have r2 := rsum_set (n := n) (gs := gs) (g := g) (fun _ g => g.j) (g' := g') ht hgt
  have r4 := rsum_set (n := n) (gs := gs) (g := g) (fun _ g => losP g) (g' := g') ht hgt
  try dsimp only at r2 r4
  have q2 := h.v0
  have q4 := h.pot
  refine ⟨updG gs t g', v', hs, h.hn, fun s hsn => ?_, by rw [e1, hss]; exact h.ss, by omega, by rw [e4]; omega⟩
  by_cases hst : s = t
  · subst hst; rw [updG_same]; exact hT _ (by omega)
  · rw [updG_ne _ _ hst]; exact (h.th s hsn).mono (by omega)

theorem los_step (h : LosJ B n gs v m) {t : Nat} (hc : canZ m t = true) (hk : m.k < 20000) : ∃ gs' v', LosJ B n gs' v' (stepZ m t).2 := by
  obtain ⟨ht, hd, hno⟩ := h.sys.can hc
  obtain ⟨g, hgt⟩ : ∃ g, gs t = g := ⟨_, rfl⟩
  obtain ⟨r1, hrg, hcase⟩ := h.th t ht
  have hn16 := h.hn
  have hS : rsum n (fun t => (gs t).j) ≤ n * 1 := rsum_const _ _ _ fun s hs => by
    obtain ⟨_, _, q | ⟨_, q | q⟩⟩ := h.th s hs <;> omega
  have hv0 := h.v0
  rw [hgt] at hd hrg hcase
  obtain ⟨j, o, rg, dn⟩ := g
  dsimp only at hd hrg hcase
  subst hd hrg
  have hb : (List.replicate 1 ())[0]? = some () := rfl
  rcases hcase with ⟨h1, _⟩ | ⟨_, ⟨rfl, rfl | ⟨rfl, h0, h1⟩ | ⟨rfl, h0, h1⟩⟩ | ⟨rfl, rfl⟩⟩
  · cases h1
  · refine los_upd h hc hk hgt (v' := v) (LS.inn (o' := 1) (rg' := [0, v, 0, 0, 0, 0, 0, 0]) hb (i := ⟨6, 1, 0, 0, 0⟩) rfl (cellK_ok (by decide)) rfl (by decide)) (Nat.le_refl _) (fun S hS => ⟨_, rfl, .inr ⟨rfl, .inl ⟨rfl, .inr (.inl ⟨rfl, hv0.1, ?_⟩)⟩⟩⟩) rfl (.inl ⟨rfl, rfl⟩) (by simp [losP])
    have hS : S + 0 = _ + 0 := hS
    omega
  · have hw1 : u64m (r1 + u64m 1) = r1 + 1 := wrap_u64 (r1 + 1) (by omega) (by omega)
    refine los_upd h hc hk hgt (v' := v) (LS.inn (o' := 2) (rg' := [0, u64m (r1 + u64m 1), 0, 0, 0, 0, 0, 0]) hb (i := ⟨3, 1, 1, 1, 0⟩) rfl (cellK_ok (by decide)) rfl (by decide)) (Nat.le_refl _) (fun S hS => ⟨_, rfl, .inr ⟨rfl, .inl ⟨rfl, .inr (.inr ⟨rfl, ?_⟩)⟩⟩⟩) rfl (.inl ⟨rfl, rfl⟩) (by simp [losP])
    have hS : S + 0 = _ + 0 := hS
    omega
  · refine los_upd h hc hk hgt (v' := r1) (LS.out (o' := 3) (rg' := [0, r1, 0, 0, 0, 0, 0, 0]) hb (i := ⟨7, 0, 1, -1, 0⟩) rfl (cellK_ok (by decide)) rfl rfl) (Nat.zero_le _) (fun S hS => ⟨_, rfl, .inr ⟨rfl, .inr ⟨rfl, rfl⟩⟩⟩) rfl (.inr ⟨h0, h1, rfl⟩) (by simp [losP])
  · exact los_upd h hc hk hgt (v' := v) (LS.halt rfl) (Nat.le_refl _) (fun S hS => ⟨_, rfl, .inl ⟨rfl, rfl⟩⟩) rfl (.inl ⟨rfl, rfl⟩) (by simp [losP])

def LosI (B n : Nat) (m : MZ) : Prop := ∃ gs v, LosJ B n gs v m

theorem LosI.step (h : LosI B n m) (t : Int) : LosI B n (stepZ m t).2 := by
  obtain ⟨gs, v, h⟩ := h
  rcases step_or h.sys.wf t with e | ⟨s, rfl, hc, hk⟩
  · rw [e]; exact ⟨gs, v, h⟩
  · exact los_step h hc hk

theorem LosI.poke (h : LosI B n m) (t : Int) : LosI B n (pokeZ m t) := by
  obtain ⟨gs, v, h⟩ := h
  exact ⟨gs, v, h.sys.poke t, h.hn, h.th, poke_none h.ss t, h.v0, h.pot⟩

end

theorem los_right : rightZ (catP losL) 1 = true := by decide

theorem los_init {n : Nat} (hn : n ≤ 16) : LosJ 64 n (fun _ => ⟨0, th0⟩) 0 (mz0 (List.replicate n (catP losL)) [0]) := by
  refine ⟨same_sys hn los_right, hn, fun t ht => ⟨0, rfl, .inr ⟨rfl, .inl ⟨rfl, .inl rfl⟩⟩⟩, rfl, ?_, ?_⟩
  · rw [rsum_zero fun _ _ => rfl]
    simp
  · have h1 : rsum n (fun _ => losP ⟨0, th0⟩) ≤ n * 4 := rsum_const _ _ _ fun t ht => Nat.le_refl _
    have h2 : n * 4 ≤ 16 * 4 := Nat.mul_le_mul_right _ hn
    show 0 + _ ≤ 64
    omega

theorem los_fin {n : Nat} (hn : 1 ≤ n ∧ n ≤ 16) (ms : List MoveZ) : ∃ z v, finish (movesZ (mz0 (List.replicate n (catP losL)) [0]) ms) = z ∧ z.ws = [v] ∧ 1 ≤ v ∧ v ≤ n := by
  have h0 : LosI 64 n (movesZ (mz0 (List.replicate n (catP losL)) [0]) ms) :=
    moves_inv (P := fun _ m => LosI 64 n m) (fun i m t h => h.step t) (fun i m t h => h.poke t) ms 0 _ ⟨_, _, los_init hn.2⟩
  have hw : WF (movesZ (mz0 (List.replicate n (catP losL)) [0]) ms) := by obtain ⟨_, _, h⟩ := h0; exact h.sys.wf
  obtain ⟨⟨gs, v, h1⟩, hno⟩ := fin_stop (P := LosI 64 n) (fun m t h => h.step t) (fun m h => by obtain ⟨_, _, h⟩ := h; have := h.pot; omega) h0 hw
  refine ⟨_, v, rfl, h1.sys.ws, ?_⟩
  generalize finish (movesZ (mz0 (List.replicate n (catP losL)) [0]) ms) = z at h1 hno
  have hj : ∀ t, t < n → (gs t).j = 1 := fun t ht => by
    obtain ⟨_, _, q | ⟨q, _⟩⟩ := h1.th t ht
    · exact q.2
    · rw [all_done h1.sys h1.ss hno ht] at q; cases q
  have a1 := rsum_le (n := n) (g := fun t => (gs t).j) (h := fun _ => 0 + 1) fun s hs => by rw [hj s hs]; omega
  have a2 := rsum_le (n := n) (h := fun t => (gs t).j) (g := fun _ => 0 + 1) fun s hs => by rw [hj s hs]; omega
  rw [rsum_plus, rsum_zero fun _ _ => rfl] at a1 a2
  have := h1.v0
  omega

/-! ### The first -/

abbrev swpB : List InsZ := [⟨1, 2, 5, 0, 0⟩, ⟨9, 3, 0, 1, 2⟩, ⟨16, 3, 3, 0, 0⟩]
def swpU (_ : Unit) : List InsZ := swpB
abbrev swpL : List (List InsZ) := (List.replicate 1 ()).map swpU

def SwpG (g : GZ) : Prop :=
  ∃ r2 r3 : Int, g.y.rg = [0, 0, r2, r3, 0, 0, 0, 0] ∧ (g.y.dn = true ∧ g.j = 1 ∨ g.y.dn = false ∧ (g.j = 0 ∧ (g.y.pc = 0 ∨ g.y.pc = 1 ∧ r2 = 5 ∨ g.y.pc = 2 ∧ (r3 = 0 ∨ r3 = 1)) ∨ g.j = 1 ∧ g.y.pc = 0))

def swpP (g : GZ) : Nat := if g.y.dn = true then 0 else if g.j = 0 then 4 - g.y.pc else 1
/-- Who won, and is yet to say so. -/
def swpH (g : GZ) : Nat := if g.y.dn = false ∧ g.j = 0 ∧ g.y.pc = 2 ∧ rgZ g.y.rg 3 = 1 then 1 else 0
/-- Who swapped already. -/
def swpN (g : GZ) : Nat := if g.j = 1 ∨ g.y.pc = 2 then 1 else 0

structure SwpJ (B n : Nat) (gs : Nat → GZ) (v : Int) (m : MZ) : Prop where
  sys : SysW n 1 (fun _ => swpL) gs [v] m
  hn : n ≤ 16
  th : ∀ t, t < n → SwpG (gs t)
  ss : m.ss = []
  v0 : v = 0 ∧ rsum n (fun t => swpN (gs t)) = 0 ∨ v = 5
  el : m.el.length = rsum n fun t => (gs t).j
  sum : (m.el.map (·.v)).sum + rsum n (fun t => swpH (gs t)) = if v = 5 then 1 else 0
  pos : ∀ e ∈ m.el, 0 ≤ e.v ∧ e.v ≤ 1
  pot : m.k + rsum n (fun t => swpP (gs t)) ≤ B

section
variable {B n : Nat} {v : Int} {gs : Nat → GZ} {m : MZ}

theorem swp_upd (h : SwpJ B n gs v m) {t : Nat} (hc : canZ m t = true) (hk : m.k < 20000) {g g' : GZ} (hgt : gs t = g) {v' : Int} {e : EffW} (hl : LS 1 swpL g [v] g' [v'] e)
    (hT : SwpG g') (hss : effWS t m.ss e = m.ss) (hv : v' = v ∧ (v = 5 ∨ swpN g' = swpN g) ∨ v' = 5) (hel : (effWE (m.k + 1) t m.el e).length + g.j = m.el.length + g'.j)
    (hsum : ((effWE (m.k + 1) t m.el e).map (·.v)).sum + swpH g' + (if v = 5 then 1 else 0 : Int) = (m.el.map (·.v)).sum + swpH g + (if v' = 5 then 1 else 0 : Int)) (hpos : ∀ a ∈ effWE (m.k + 1) t m.el e, 0 ≤ a.v ∧ a.v ≤ 1)
    (hp : swpP g' + 1 ≤ swpP g) : ∃ gs' v', SwpJ B n gs' v' (stepZ m t).2 := by
  obtain ⟨ht, hdn, hno⟩ := h.sys.can hc
  obtain ⟨hs, e1, e2, e3, e4⟩ := h.sys.ls hc hk hgt hl
  have r1 := rsum_set (n := n) (gs := gs) (g := g) (fun _ g => swpN g) (g' := g') ht hgt
  have r2 := rsum_set (n := n) (gs := gs) (g := g) (fun _ g => g.j) (g' := g') ht hgt
  have r3 := rsum_set (n := n) (gs := gs) (g := g) (fun _ g => swpH g) (g' := g') ht hgt
  have r4 := rsum_set (n := n) (gs := gs) (g := g) (fun _ g => swpP g) (g' := g') ht hgt
  try dsimp only at r1 r2 r3 r4
  have q1 := h.v0
  have q2 := h.el
  have q3 := h.sum
  have q4 := h.pot
  refine ⟨updG gs t g', v', hs, h.hn, fun s hsn => ?_, by rw [e1, hss]; exact h.ss, by omega, by rw [e3]; omega, by rw [e3]; omega, by rw [e3]; exact hpos, by rw [e4]; omega⟩
  by_cases hst : s = t
  · subst hst; rw [updG_same]; exact hT
  · rw [updG_ne _ _ hst]; exact h.th s hsn

theorem swp_step (h : SwpJ B n gs v m) {t : Nat} (hc : canZ m t = true) (hk : m.k < 20000) : ∃ gs' v', SwpJ B n gs' v' (stepZ m t).2 := by
  obtain ⟨ht, hd, hno⟩ := h.sys.can hc
  obtain ⟨g, hgt⟩ : ∃ g, gs t = g := ⟨_, rfl⟩
  obtain ⟨r2, r3, hrg, hcase⟩ := h.th t ht
  have hv0 := h.v0
  have hpos := h.pos
  rw [hgt] at hd hrg hcase
  obtain ⟨j, o, rg, dn⟩ := g
  dsimp only at hd hrg hcase
  subst hd hrg
  have hb : (List.replicate 1 ())[0]? = some () := rfl
  rcases hcase with ⟨h1, _⟩ | ⟨_, ⟨rfl, rfl | ⟨rfl, rfl⟩ | ⟨rfl, h3⟩⟩ | ⟨rfl, rfl⟩⟩
  · cases h1
  · exact swp_upd h hc hk hgt (v' := v) (LS.inn (o' := 1) (rg' := [0, 0, 5, r3, 0, 0, 0, 0]) hb (i := ⟨1, 2, 5, 0, 0⟩) rfl (cellK_ok (by decide)) rfl (by decide)) ⟨_, _, rfl, .inr ⟨rfl, .inl ⟨rfl, .inr (.inl ⟨rfl, rfl⟩)⟩⟩⟩ rfl (.inl ⟨rfl, .inr rfl⟩) rfl rfl hpos (by simp [swpP])
  · by_cases hq : v = 0
    · refine swp_upd h hc hk hgt (v' := 5) (LS.inn (o' := 2) (rg' := [0, 0, 5, 1, 0, 0, 0, 0]) hb (i := ⟨9, 3, 0, 1, 2⟩) rfl (cellK_ok (by decide)) (nx_swap hq) (by decide)) ⟨_, _, rfl, .inr ⟨rfl, .inl ⟨rfl, .inr (.inr ⟨rfl, .inr rfl⟩)⟩⟩⟩ rfl (.inr rfl) rfl ?_ hpos (by simp [swpP])
      show (m.el.map (·.v)).sum + ((1 : Nat) : Int) + _ = (m.el.map (·.v)).sum + ((0 : Nat) : Int) + _
      rw [if_neg (by omega), if_pos rfl]
      omega
    · exact swp_upd h hc hk hgt (v' := v) (LS.inn (o' := 2) (rg' := [0, 0, 5, 0, 0, 0, 0, 0]) hb (i := ⟨9, 3, 0, 1, 2⟩) rfl (cellK_ok (by decide)) (nx_swap' hq) (by decide)) ⟨_, _, rfl, .inr ⟨rfl, .inl ⟨rfl, .inr (.inr ⟨rfl, .inl rfl⟩)⟩⟩⟩ rfl (.inl ⟨rfl, .inl (by omega)⟩) rfl rfl hpos (by simp [swpP])
  · refine swp_upd h hc hk hgt (v' := v) (LS.out (o' := 3) (rg' := [0, 0, r2, r3, 0, 0, 0, 0]) hb (i := ⟨16, 3, 3, 0, 0⟩) rfl (cellK_ok (by decide)) rfl rfl) ⟨_, _, rfl, .inr ⟨rfl, .inr ⟨rfl, rfl⟩⟩⟩ rfl (.inl ⟨rfl, .inr rfl⟩) ?_ ?_ (fun e he => ?_) (by simp [swpP])
    · show (m.el ++ [_]).length + 0 = m.el.length + 1
      rw [List.length_append]; rfl
    · show ((m.el ++ [(⟨((m.k + 1 : Nat) : Int), 3, (t : Int), IntKind.i64.wrap r3⟩ : EvZ)]).map (·.v)).sum + ((0 : Nat) : Int) + _ = (m.el.map (·.v)).sum + ((if (false : Bool) = false ∧ 0 = 0 ∧ 2 = 2 ∧ r3 = 1 then 1 else 0 : Nat) : Int) + _
      rw [List.map_append, List.sum_append, wrap_i64 r3 (by omega) (by omega)]
      rcases h3 with rfl | rfl <;> simp
    · rcases List.mem_append.1 he with he | he
      · exact hpos e he
      · rw [List.mem_singleton.1 he]
        show 0 ≤ IntKind.i64.wrap r3 ∧ IntKind.i64.wrap r3 ≤ 1
        rw [wrap_i64 r3 (by omega) (by omega)]
        omega
  · refine swp_upd h hc hk hgt (v' := v) (LS.halt rfl) ⟨_, _, rfl, .inl ⟨rfl, rfl⟩⟩ rfl (.inl ⟨rfl, .inr rfl⟩) rfl ?_ hpos (by simp [swpP])
    simp [swpH]
    rfl

def SwpI (B n : Nat) (m : MZ) : Prop := ∃ gs v, SwpJ B n gs v m

theorem SwpI.step (h : SwpI B n m) (t : Int) : SwpI B n (stepZ m t).2 := by
  obtain ⟨gs, v, h⟩ := h
  rcases step_or h.sys.wf t with e | ⟨s, rfl, hc, hk⟩
  · rw [e]; exact ⟨gs, v, h⟩
  · exact swp_step h hc hk

theorem SwpI.poke (h : SwpI B n m) (t : Int) : SwpI B n (pokeZ m t) := by
  obtain ⟨gs, v, h⟩ := h
  exact ⟨gs, v, h.sys.poke t, h.hn, h.th, poke_none h.ss t, h.v0, h.el, h.sum, h.pos, h.pot⟩

end

theorem swp_right : rightZ (catP swpL) 1 = true := by decide

theorem swp_init {n : Nat} (hn : n ≤ 16) : SwpJ 64 n (fun _ => ⟨0, th0⟩) 0 (mz0 (List.replicate n (catP swpL)) [0]) := by
  refine ⟨same_sys hn swp_right, hn, fun t ht => ⟨0, 0, rfl, .inr ⟨rfl, .inl ⟨rfl, .inl rfl⟩⟩⟩, rfl, .inl ⟨rfl, rsum_zero fun _ _ => rfl⟩, ?_, ?_, (fun e he => by cases he), ?_⟩
  · rw [rsum_zero fun _ _ => rfl]; rfl
  · rw [rsum_zero (n := n) (g := fun _ => swpH ⟨0, th0⟩) fun _ _ => rfl]; rfl
  · have h1 : rsum n (fun _ => swpP ⟨0, th0⟩) ≤ n * 4 := rsum_const _ _ _ fun t ht => Nat.le_refl _
    have h2 : n * 4 ≤ 16 * 4 := Nat.mul_le_mul_right _ hn
    show 0 + _ ≤ 64
    omega

theorem swp_fin {n : Nat} (hn : 1 ≤ n ∧ n ≤ 16) (ms : List MoveZ) : ∃ z, finish (movesZ (mz0 (List.replicate n (catP swpL)) [0]) ms) = z ∧ z.ws = [5] ∧ z.el.length = n ∧ (z.el.map (·.v)).sum = 1 ∧ ∀ e ∈ z.el, 0 ≤ e.v ∧ e.v ≤ 1 := by
  have h0 : SwpI 64 n (movesZ (mz0 (List.replicate n (catP swpL)) [0]) ms) :=
    moves_inv (P := fun _ m => SwpI 64 n m) (fun i m t h => h.step t) (fun i m t h => h.poke t) ms 0 _ ⟨_, _, swp_init hn.2⟩
  have hw : WF (movesZ (mz0 (List.replicate n (catP swpL)) [0]) ms) := by obtain ⟨_, _, h⟩ := h0; exact h.sys.wf
  obtain ⟨⟨gs, v, h1⟩, hno⟩ := fin_stop (P := SwpI 64 n) (fun m t h => h.step t) (fun m h => by obtain ⟨_, _, h⟩ := h; have := h.pot; omega) h0 hw
  refine ⟨_, rfl, ?_⟩
  generalize finish (movesZ (mz0 (List.replicate n (catP swpL)) [0]) ms) = z at h1 hno
  have hd := fun t (ht : t < n) => all_done h1.sys h1.ss hno ht
  have hj : ∀ t, t < n → (gs t).j = 1 := fun t ht => by
    obtain ⟨_, _, _, q | ⟨q, _⟩⟩ := h1.th t ht
    · exact q.2
    · rw [hd t ht] at q; cases q
  have a1 := rsum_le (n := n) (g := fun t => (gs t).j) (h := fun _ => 0 + 1) fun s hs => by rw [hj s hs]; omega
  have a2 := rsum_le (n := n) (h := fun t => (gs t).j) (g := fun _ => 0 + 1) fun s hs => by rw [hj s hs]; omega
  have a3 := rsum_le (n := n) (h := fun t => swpN (gs t)) (g := fun _ => 0 + 1) fun s hs => by rw [swpN, if_pos (.inl (hj s hs))]; omega
  have a4 := rsum_zero (n := n) (g := fun t => swpH (gs t)) fun s hs => by rw [swpH, if_neg (by rw [hd s hs]; simp)]
  rw [rsum_plus, rsum_zero fun _ _ => rfl] at a1 a2 a3
  have hv : v = 5 := by
    rcases h1.v0 with ⟨_, h2⟩ | h2
    · omega
    · exact h2
  have h3 := h1.sum
  rw [a4, if_pos hv] at h3
  refine ⟨by rw [h1.sys.ws, hv], by rw [h1.el]; omega, by omega, h1.pos⟩

end Go.Mac
