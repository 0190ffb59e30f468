/- Threads at a latch: behind any moves, and in the end. -/
import Derived.Test.YtnkmddcadkcdcaaDoorQLatS
import Derived.Test.YtnkmddcadkcdcaaDoorQSemaE
open Go Go.Proofs Go.Mac
set_option maxRecDepth 100000
namespace Go.Mac

section
variable {B D n : Nat} {first : Int} {ls : Nat → List Bool}

def LatI (B D n : Nat) (first : Int) (ls : Nat → List Bool) (m : MZ) : Prop := ∃ gs v, LatJ B D n first ls gs v m

theorem LatJ.mono {B B' : Nat} {gs : Nat → GZ} {v : Int} {m : MZ} (h : LatJ B D n first ls gs v m) (hb : B ≤ B') : LatJ B' D n first ls gs v m :=
  ⟨h.sys, h.hn, h.th, h.v0, h.lo, h.hi, h.sl, h.jn, h.fo, Nat.le_trans h.pot hb⟩

theorem LatI.step {m : MZ} (h : LatI B D n first ls m) (t : Int) : LatI B D n first ls (stepZ m t).2 := by
  obtain ⟨gs, v, h⟩ := h
  rcases step_or h.sys.wf t with e | ⟨s, rfl, hc, hk⟩
  · rw [e]; exact ⟨gs, v, h⟩
  · obtain ⟨v', i, y', e, _, _, _, hJ⟩ := lat_step h hc hk
    exact ⟨_, _, hJ⟩

theorem LatJ.poke {gs : Nat → GZ} {v : Int} {m : MZ} (h : LatJ B D n first ls gs v m) (t : Int) : LatJ (B + 4) D n first ls gs v (pokeZ m t) := by
  refine ⟨h.sys.poke t, h.hn, h.th, h.v0, h.lo, h.hi, fun s hs => h.sl s (List.mem_filter.1 hs).1, fun hne hz => ?_, h.fo, ?_⟩
  · exact h.jn (fun e => hne (by show m.ss.filter _ = []; rw [e]; rfl)) hz
  · have h1 := h.pot
    have h2 := filter_lenS (t := t) h.sys.wf.ss.1
    show m.k + (rsum n (fun t => lpG v (ls t) (gs t)) + 4 * (n - (m.ss.filter fun s => s.t != t).length)) ≤ B + 4
    omega

theorem latB_ok (b : Bool) : ∀ i ∈ latB b, okI 1 (((latB b).length : Int) + 1) i = true := by cases b <;> decide

theorem latB_len (b : Bool) : (latB b).length ≤ 10 := by cases b <;> decide

theorem lat_right {l : List Bool} (hl : l.length ≤ 12) : rightZ (catP (l.map latB)) 1 = true := by
  refine catP_right (by decide) (fun b hb => ?_) ?_
  · obtain ⟨c, _, rfl⟩ := List.mem_map.1 hb
    exact latB_ok c
  · have := offB_le (n := 10) (l.map latB) (fun b hb => by obtain ⟨c, _, rfl⟩ := List.mem_map.1 hb; exact latB_len c) (l.map latB).length
    rw [List.length_map] at this ⊢
    omega

def latM (ll : List (List Bool)) (f : Int) : MZ := mz0 (ll.map fun l => catP (l.map latB)) [f]

theorem lat_init {ll : List (List Bool)} (hn : ll.length ≤ 9) (hl : ∀ l ∈ ll, l.length ≤ 12) {f : Nat} (hf : f ≤ 100) :
    LatJ 9225 (rsum ll.length fun t => cnt true (lsF ll t) 0) ll.length f (lsF ll) (fun _ => ⟨0, th0⟩) f (latM ll f) := by
  have hts : ∀ t, t < ll.length → (latM ll f).ts[t]? = some th0 := fun t ht => by
    show (List.replicate (ll.map _).length th0)[t]? = _
    rw [List.length_map, List.getElem?_replicate, if_pos ht]
  have e1 : ∀ l : List Bool, dnG l ⟨0, th0⟩ = cnt true l 0 := fun l => dn_next l 0 _
  refine ⟨⟨mz0_wf (by simp; omega) (by simp) (fun p hp => ?_) (fun w hw => ?_), by simp [latM, mz0], fun t ht => ?_, rfl, fun t ht => ?_⟩, hn, fun t ht => ?_, ⟨by omega, by omega⟩, ?_, fun _ => ?_, (fun s hs => by cases hs), fun h => absurd rfl h, (fun a ha => by cases ha), ?_⟩
  · obtain ⟨l, hl', rfl⟩ := List.mem_map.1 hp
    exact lat_right (hl l hl')
  · obtain rfl := List.mem_singleton.1 hw
    omega
  · show (ll.map _)[t]? = _
    rw [List.getElem?_map, lsF_get ht]; rfl
  · rw [hts t ht]; rfl
  · refine ⟨0, 0, 0, rfl, (fun _ i hi => absurd hi (Nat.not_lt_zero i)), .inr ⟨rfl, ?_⟩⟩
    cases h : (lsF ll t)[0]? with
    | none => exact .inr ⟨by have := List.getElem?_eq_none_iff.1 h; show 0 = _; omega, rfl⟩
    | some c =>
      refine .inl ⟨c, by first | exact h | rfl, ?_⟩
      cases c <;> simp [latOk]
  · simp only [e1]
    omega
  · simp only [e1]
  · have h1 : rsum ll.length (fun t => lpG f (lsF ll t) ⟨0, th0⟩) ≤ ll.length * 1021 := rsum_const _ _ _ fun t ht => by
      have h1 := lp_next f (lsF ll t) 0 (rgZ th0.rg 1) (rgZ th0.rg 3)
      have h2 := hl _ (lsF_mem ht)
      show 85 * ((lsF ll t).length - (0 + 1)) + lpN f (lsF ll t)[0]? 0 (rgZ th0.rg 1) (rgZ th0.rg 3) + 1 ≤ 1021
      omega
    have h2 : ll.length * 1021 ≤ 9 * 1021 := Nat.mul_le_mul_right _ hn
    show 0 + (_ + 4 * (ll.length - 0)) ≤ 9225
    omega

theorem lat_moves {ll : List (List Bool)} (hn : ll.length ≤ 9) (hl : ∀ l ∈ ll, l.length ≤ 12) {f : Nat} (hf : f ≤ 100) (ms : List MoveZ) :
    LatI (9225 + 4 * ms.length) (rsum ll.length fun t => cnt true (lsF ll t) 0) ll.length f (lsF ll) (movesZ (latM ll f) ms) := by
  have := moves_inv (P := fun i m => LatI (9225 + 4 * i) (rsum ll.length fun t => cnt true (lsF ll t) 0) ll.length f (lsF ll) m)
    (fun i m t h => by obtain ⟨gs, v, h⟩ := h.step t; exact ⟨gs, v, h.mono (by omega)⟩) (fun i m t h => by obtain ⟨gs, v, h⟩ := h; exact ⟨gs, v, (h.poke t).mono (by omega)⟩) ms 0 _ ⟨_, _, lat_init hn hl hf⟩
  rw [Nat.zero_add] at this
  exact this

theorem lat_stop {gs : Nat → GZ} {v : Int} {z : MZ} (h : LatJ B D n first ls gs v z) (hno : ∀ t, t < z.ts.length → canZ z (t : Int) = false) {t : Nat} (ht : t < n) : (gs t).y.dn = true ∨ slp z.ss t = true := by
  cases hs : slp z.ss t with
  | true => exact .inr rfl
  | false =>
    cases hd : (gs t).y.dn with
    | true => exact .inl rfl
    | false =>
      exfalso
      have := can_in (h.sys.ts t ht) (show (conc _ (gs t)).dn = false from hd) (fun s hs' e => by
        rw [slp, List.any_eq_false] at hs
        exact hs s hs' (by simpa using e))
      rw [hno t (by rw [h.sys.ln]; exact ht)] at this
      cases this

theorem lat_done {gs : Nat → GZ} {v : Int} {z : MZ} (h : LatJ B D n first ls gs v z) {t : Nat} (ht : t < n) (hd : (gs t).y.dn = true) : (gs t).j = (ls t).length := by
  obtain ⟨r1, r2, r3, _, _, h1 | ⟨h1, _⟩⟩ := h.th t ht
  · exact h1.2
  · rw [hd] at h1; cases h1

theorem lat_slp {gs : Nat → GZ} {v : Int} {z : MZ} (h : LatJ B D n first ls gs v z) {t : Nat} (hs : slp z.ss t = true) : (ls t)[(gs t).j]? = some false ∧ (gs t).y.dn = false := by
  rw [slp, List.any_eq_true] at hs
  obtain ⟨s, hs, e⟩ := hs
  obtain ⟨_, h5, _, h6⟩ := h.sl s hs
  have e : s.t = (t : Int) := by simpa using e
  rw [e, Int.toNat_natCast] at h5 h6
  exact ⟨h5, h6⟩

theorem lat_fin {z0 : MZ} (h : LatI B D n first ls z0) (hb : B < 20000) : ∃ gs v, LatJ B D n first ls gs v (finish z0) ∧ ∀ t, t < (finish z0).ts.length → canZ (finish z0) (t : Int) = false := by
  have hw : WF z0 := by obtain ⟨_, _, h⟩ := h; exact h.sys.wf
  obtain ⟨⟨gs, v, h1⟩, h2⟩ := finish_inv (P := LatI B D n first ls) (fun m t hP _ _ => hP.step t) h hw
  have hk : (finish z0).k < 20000 := by have := h1.pot; omega
  refine ⟨gs, v, h1, fun t ht => ?_⟩
  have := h2 t ht
  cases hcz : canZ (finish z0) (t : Int) with
  | false => rfl
  | true => exact absurd ⟨hcz, hk⟩ this

theorem lat_all {gs : Nat → GZ} {v : Int} {z : MZ} (h : LatJ B D n first ls gs v z) (hno : ∀ t, t < z.ts.length → canZ z (t : Int) = false) (hs : z.ss = []) : ∀ x ∈ z.ts, x.dn = true := by
  intro x hx
  obtain ⟨t, ht⟩ := List.mem_iff_getElem?.1 hx
  have htn : t < n := by rw [← h.sys.ln]; exact (List.getElem?_eq_some_iff.1 ht).1
  have h1 : (gs t).y.dn = true := by
    rcases lat_stop h hno htn with h1 | h1
    · exact h1
    · rw [hs] at h1; cases h1
  rw [h.sys.ts t htn] at ht
  obtain rfl := Option.some.inj ht
  exact h1

/-- Where nobody can go on and it is open, nobody sleeps. -/
theorem lat_open {gs : Nat → GZ} {v : Int} {z : MZ} (h : LatJ B D n first ls gs v z) (hno : ∀ t, t < z.ts.length → canZ z (t : Int) = false) (hv : v = 0) : z.ss = [] := Classical.byContradiction fun hne => by
  obtain ⟨t, ht, hw⟩ := h.jn hne hv
  rcases lat_stop h hno ht with h1 | h1
  · rw [wkG, lat_done h ht h1, List.getElem?_eq_none_iff.2 (Nat.le_refl _)] at hw
    cases hw
  · rw [wkG, (lat_slp h h1).1] at hw
    cases hw

theorem lat_dn0 {gs : Nat → GZ} {v : Int} {z : MZ} (h : LatJ B D n first ls gs v z) (hno : ∀ t, t < z.ts.length → canZ z (t : Int) = false) (hp : ∀ t, t < n → (∀ b ∈ ls t, b = false) ∨ ∀ b ∈ ls t, b = true) : rsum n (fun t => dnG (ls t) (gs t)) = 0 := rsum_zero fun t ht => by
  rcases hp t ht with hp | hp
  · rw [dnG, cnt, List.count_eq_zero.2 fun hm => by have := hp true (List.mem_of_mem_drop hm); cases this]
    cases hc : (ls t)[(gs t).j]? with
    | none => rfl
    | some c =>
      have := hp c (List.mem_of_getElem? hc)
      subst this; rfl
  · rcases lat_stop h hno ht with h1 | h1
    · rw [dnG, lat_done h ht h1, cnt_end (by omega), List.getElem?_eq_none_iff.2 (Nat.le_refl _)]; rfl
    · have := hp false (List.mem_of_getElem? (lat_slp h h1).1)
      cases this

theorem lat_ends_open {gs : Nat → GZ} {v : Int} {z : MZ} (h : LatJ B D n first ls gs v z) (hno : ∀ t, t < z.ts.length → canZ z (t : Int) = false) (hp : ∀ t, t < n → (∀ b ∈ ls t, b = false) ∨ ∀ b ∈ ls t, b = true)
    (ha : first ≤ D ∨ ∀ t, t < n → ∀ b ∈ ls t, b = true) : allZ z = true ∧ stuckZ z = false := by
  have hs : z.ss = [] := by
    rcases ha with ha | ha
    · refine lat_open h hno ?_
      have h1 := h.hi
      have h2 := h.v0
      rw [lat_dn0 h hno hp] at h1
      by_cases hv : v = 0
      · exact hv
      · have := h1 hv
        omega
    · cases hss : z.ss with
      | nil => rfl
      | cons s xs =>
        exfalso
        obtain ⟨_, h1, _⟩ := h.sl s (by rw [hss]; simp)
        have h2 := h.sys.wf.ss.2 s (by rw [hss]; simp)
        rw [h.sys.ln] at h2
        have := ha s.t.toNat (by omega) false (List.mem_of_getElem? h1)
        cases this
  have hd := lat_all h hno hs
  exact ⟨all_ofS hd, stuck_ofS hd⟩

theorem lat_ends_shut {gs : Nat → GZ} {v : Int} {z : MZ} (h : LatJ B D n first ls gs v z) (hno : ∀ t, t < z.ts.length → canZ z (t : Int) = false) (hp : ∀ t, t < n → (∀ b ∈ ls t, b = false) ∨ ∀ b ∈ ls t, b = true)
    (ha : (D : Int) < first) (hw : ∃ t, t < n ∧ false ∈ ls t) : allZ z = false ∧ stuckZ z = true := by
  have h1 := h.lo
  rw [lat_dn0 h hno hp] at h1
  have hv : v ≠ 0 := by omega
  obtain ⟨t, ht, hf⟩ := hw
  have hdn : (gs t).y.dn = false := by
    cases hd : (gs t).y.dn with
    | false => rfl
    | true =>
      exfalso
      obtain ⟨_, _, _, _, haw, _⟩ := h.th t ht
      obtain ⟨i, hi⟩ := List.mem_iff_getElem?.1 hf
      exact haw hv i (by rw [lat_done h ht hd]; exact (List.getElem?_eq_some_iff.1 hi).1) hi
  have hall : allZ z = false := by
    rw [allZ, List.all_eq_false]
    exact ⟨_, List.mem_of_getElem? (h.sys.ts t ht), by show ¬ (gs t).y.dn = true; rw [hdn]; decide⟩
  refine ⟨hall, ?_⟩
  rw [stuckZ, hall, Bool.not_false, Bool.and_true, List.all_eq_true]
  intro t ht
  have := hno t (List.mem_range.1 ht)
  rw [this]; rfl

end
end Go.Mac
