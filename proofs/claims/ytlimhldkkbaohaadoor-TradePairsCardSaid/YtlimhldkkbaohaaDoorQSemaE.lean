/- Threads that take, and give: behind any moves, and in the end. -/
import Derived.Test.YtlimhldkkbaohaaDoorQSemaS
import Derived.Test.YtlimhldkkbaohaaDoorQCatRight
import Derived.Test.YtlimhldkkbaohaaDoorGMachN
open Go Go.Proofs Go.Mac
set_option maxRecDepth 100000
namespace Go.Mac

section
variable {B E n : Nat} {R first : Int} {ls : Nat → List Bool}

def SemI (B E n : Nat) (R first : Int) (ls : Nat → List Bool) (m : MZ) : Prop := ∃ gs v, SemJ B E n R first ls gs v m
def SemO (B E n : Nat) (R first : Int) (ls : Nat → List Bool) (m : MZ) : Prop := ∃ gs v, SemJ B E n R first ls gs v m ∧ OneJ n ls gs v m.al

theorem SemJ.mono {B B' : Nat} {gs : Nat → GZ} {v : Int} {m : MZ} (h : SemJ B E n R first ls gs v m) (hb : B ≤ B') : SemJ B' E n R first ls gs v m :=
  ⟨h.sys, h.hn, h.th, h.v0, h.hv, h.sl, h.jn, h.fo, h.el, Nat.le_trans h.pot hb⟩

theorem SemI.step {m : MZ} (h : SemI B E n R first ls m) (t : Int) : SemI B E n R first ls (stepZ m t).2 := by
  obtain ⟨gs, v, h⟩ := h
  rcases step_or h.sys.wf t with e | ⟨s, rfl, hc, hk⟩
  · rw [e]; exact ⟨gs, v, h⟩
  · obtain ⟨gs', v', h', _⟩ := sem_step h hc hk
    exact ⟨gs', v', h'⟩

theorem SemO.step {m : MZ} (h : SemO B E n R first ls m) (t : Int) : SemO B E n R first ls (stepZ m t).2 := by
  obtain ⟨gs, v, h, ho⟩ := h
  rcases step_or h.sys.wf t with e | ⟨s, rfl, hc, hk⟩
  · rw [e]; exact ⟨gs, v, h, ho⟩
  · obtain ⟨gs', v', h', ho'⟩ := sem_step h hc hk
    exact ⟨gs', v', h', ho' ho⟩

theorem filter_lenS {ss : List Slp} {t : Int} (h : (ss.map (·.t)).Nodup) : ss.length ≤ (ss.filter fun s => s.t != t).length + 1 := by
  induction ss with
  | nil => simp
  | cons x xs ih =>
    rw [List.map_cons, List.nodup_cons] at h
    by_cases hx : x.t = t
    · have hno : noT xs t := fun s hs e => h.1 (List.mem_map.2 ⟨s, hs, e.trans hx.symm⟩)
      rw [List.filter_cons_of_neg (by simp [hx]), filter_noT hno, List.length_cons]
      omega
    · rw [List.filter_cons_of_pos (by simp [hx]), List.length_cons, List.length_cons]
      have := ih h.2
      omega

theorem slp_filter {ss : List Slp} {t : Int} {s : Nat} (h : slp (ss.filter fun s => s.t != t) s = true) : slp ss s = true := by
  rw [slp, List.any_eq_true] at h ⊢
  obtain ⟨x, hx, e⟩ := h
  exact ⟨x, (List.mem_filter.1 hx).1, e⟩

theorem SemJ.poke {gs : Nat → GZ} {v : Int} {m : MZ} (h : SemJ B E n R first ls gs v m) (t : Int) : SemJ (B + 4) E n R first ls gs v (pokeZ m t) := by
  refine ⟨h.sys.poke t, h.hn, h.th, h.v0, h.hv, fun s hs => h.sl s (List.mem_filter.1 hs).1, fun hne => ?_, h.fo, h.el, ?_⟩
  · have hn' : m.ss ≠ [] := fun e => hne (by show m.ss.filter _ = []; rw [e]; rfl)
    have h1 := h.jn hn'
    have h2 := rsum_le (n := n) (g := fun s => if slp m.ss s = true then 0 else pdG (ls s) (gs s)) (h := fun s => if slp (m.ss.filter fun s => s.t != t) s = true then 0 else pdG (ls s) (gs s)) fun s _ => by
      try dsimp only
      split
      · exact Nat.zero_le _
      · rename_i h3
        rw [if_neg (fun h4 => h3 (slp_filter h4))]
        exact Nat.le_refl _
    show v ≤ ((rsum n fun s => if slp (m.ss.filter fun s => s.t != t) s = true then 0 else pdG (ls s) (gs s) : Nat) : Int)
    omega
  · have h1 := h.pot
    have h2 := filter_lenS (t := t) h.sys.wf.ss.1
    show m.k + (rsum n (fun t => potG v (ls t) (gs t)) + 4 * (n - (m.ss.filter fun s => s.t != t).length)) ≤ B + 4
    omega

theorem semB_ok (b : Bool) : ∀ i ∈ semB b, okI 1 (((semB b).length : Int) + 1) i = true := by cases b <;> decide

theorem semB_len (b : Bool) : (semB b).length ≤ 9 := by cases b <;> decide

theorem sem_right {l : List Bool} (hl : l.length ≤ 12) : rightZ (catP (l.map semB)) 1 = true := by
  refine catP_right (by decide) (fun b hb => ?_) ?_
  · obtain ⟨c, _, rfl⟩ := List.mem_map.1 hb
    exact semB_ok c
  · have := offB_le (n := 9) (l.map semB) (fun b hb => by obtain ⟨c, _, rfl⟩ := List.mem_map.1 hb; exact semB_len c) (l.map semB).length
    rw [List.length_map] at this ⊢
    omega

/-- Of a list of threads' calls. -/
def lsF (ll : List (List Bool)) (t : Nat) : List Bool := ll.getD t []
def semM (ll : List (List Bool)) (f : Int) : MZ := mz0 (ll.map fun l => catP (l.map semB)) [f]

theorem lsF_mem {ll : List (List Bool)} {t : Nat} (ht : t < ll.length) : lsF ll t ∈ ll := by
  rw [lsF, List.getD_eq_getElem?_getD, List.getElem?_eq_getElem ht]
  exact List.getElem_mem ht

theorem lsF_get {ll : List (List Bool)} {t : Nat} (ht : t < ll.length) : ll[t]? = some (lsF ll t) := by
  rw [lsF, List.getD_eq_getElem?_getD, List.getElem?_eq_getElem ht]; rfl

theorem sem_init {ll : List (List Bool)} (hn : ll.length ≤ 9) (hl : ∀ l ∈ ll, l.length ≤ 12) {f : Nat} (hf : f ≤ 100) :
    SemJ 5769 (rsum ll.length fun t => (lsF ll t).length) ll.length (f + rsum ll.length (fun t => cnt true (lsF ll t) 0) - rsum ll.length (fun t => cnt false (lsF ll t) 0)) f (lsF ll) (fun _ => ⟨0, th0⟩) f (semM ll f) := by
  have hts : ∀ t, t < ll.length → (semM ll f).ts[t]? = some th0 := fun t ht => by
    show (List.replicate (ll.map _).length th0)[t]? = _
    rw [List.length_map, List.getElem?_replicate, if_pos ht]
  have e0 : ∀ l : List Bool, insG (l.map semB) ⟨0, th0⟩ = insG (l.map semB) ⟨0, th0⟩ := fun _ => rfl
  refine ⟨⟨mz0_wf (by simp; omega) (by simp) (fun p hp => ?_) (fun w hw => ?_), by simp [semM, mz0], fun t ht => ?_, rfl, fun t ht => ?_⟩, hn, fun t ht => ?_, ⟨by omega, by show (f : Int) ≤ 100 + 0; omega⟩, ?_, (fun s hs => by cases hs), fun h => absurd rfl h, rfl, ?_, ?_⟩
  · obtain ⟨l, hl', rfl⟩ := List.mem_map.1 hp
    exact sem_right (hl l hl')
  · obtain rfl := List.mem_singleton.1 hw
    omega
  · show (ll.map _)[t]? = _
    rw [List.getElem?_map, lsF_get ht]; rfl
  · rw [hts t ht]; rfl
  · refine ⟨0, 0, 0, rfl, .inr ⟨rfl, ?_⟩⟩
    cases h : (lsF ll t)[0]? with
    | none => exact .inr ⟨by have := List.getElem?_eq_none_iff.1 h; show 0 = _; omega, rfl⟩
    | some c =>
      refine .inl ⟨c, by first | exact h | rfl, ?_⟩
      cases c <;> simp only [semOk] <;> decide
  · have e1 : ∀ l : List Bool, gvG l ⟨0, th0⟩ = cnt true l 0 := fun l => gv_next l 0
    have e2 : ∀ l : List Bool, tkG l ⟨0, th0⟩ = cnt false l 0 := fun l => tk_next l 0 _
    simp only [e1, e2]
    omega
  · show 0 + _ = _
    rw [Nat.zero_add]
    rfl
  · have h1 : rsum ll.length (fun t => potG f (lsF ll t) ⟨0, th0⟩) ≤ ll.length * 637 := rsum_const _ _ _ fun t ht => by
      have h1 := pot_next f (lsF ll t) 0 (rgZ th0.rg 1) (rgZ th0.rg 3)
      have h2 := hl _ (lsF_mem ht)
      show 53 * ((lsF ll t).length - (0 + 1)) + potN f (lsF ll t)[0]? 0 (rgZ th0.rg 1) (rgZ th0.rg 3) + 1 ≤ 637
      omega
    have h2 : ll.length * 637 ≤ 9 * 637 := Nat.mul_le_mul_right _ hn
    show 0 + (_ + 4 * (ll.length - 0)) ≤ 5769
    omega

theorem one_init {ll : List (List Bool)} (ha : ∀ l ∈ ll, altL l) (hf : ∀ l ∈ ll, l[0]? ≠ some true) : OneJ ll.length (lsF ll) (fun _ => ⟨0, th0⟩) 1 (semM ll 1).al := by
  refine ⟨fun t ht => ha _ (lsF_mem ht), -1, rfl, fun t ht => ?_, .inl ⟨rfl, rfl⟩⟩
  have h1 := hf _ (lsF_mem ht)
  have : hdG (lsF ll t) ⟨0, th0⟩ = false := by
    rw [hdG]
    try dsimp only
    cases h : (lsF ll t)[0]? with
    | none => rfl
    | some c =>
      cases c
      · rfl
      · exact absurd h h1
  rw [this]
  constructor
  · intro h; cases h
  · intro h; omega

theorem sem_moves {ll : List (List Bool)} (hn : ll.length ≤ 9) (hl : ∀ l ∈ ll, l.length ≤ 12) {f : Nat} (hf : f ≤ 100) (ms : List MoveZ) :
    SemI (5769 + 4 * ms.length) (rsum ll.length fun t => (lsF ll t).length) ll.length (f + rsum ll.length (fun t => cnt true (lsF ll t) 0) - rsum ll.length (fun t => cnt false (lsF ll t) 0)) f (lsF ll) (movesZ (semM ll f) ms) := by
  have := moves_inv (P := fun i m => SemI (5769 + 4 * i) (rsum ll.length fun t => (lsF ll t).length) ll.length (f + rsum ll.length (fun t => cnt true (lsF ll t) 0) - rsum ll.length (fun t => cnt false (lsF ll t) 0)) f (lsF ll) m)
    (fun i m t h => by obtain ⟨gs, v, h⟩ := h.step t; exact ⟨gs, v, h.mono (by omega)⟩) (fun i m t h => by obtain ⟨gs, v, h⟩ := h; exact ⟨gs, v, (h.poke t).mono (by omega)⟩) ms 0 _ ⟨_, _, sem_init hn hl hf⟩
  rw [Nat.zero_add] at this
  exact this

theorem semO_moves {ll : List (List Bool)} (hn : ll.length ≤ 9) (hl : ∀ l ∈ ll, l.length ≤ 12) (ha : ∀ l ∈ ll, altL l) (h0 : ∀ l ∈ ll, l[0]? ≠ some true) (ms : List MoveZ) :
    SemO (5769 + 4 * ms.length) (rsum ll.length fun t => (lsF ll t).length) ll.length ((1 : Nat) + rsum ll.length (fun t => cnt true (lsF ll t) 0) - rsum ll.length (fun t => cnt false (lsF ll t) 0)) (1 : Nat) (lsF ll) (movesZ (semM ll 1) ms) := by
  have := moves_inv (P := fun i m => SemO (5769 + 4 * i) (rsum ll.length fun t => (lsF ll t).length) ll.length ((1 : Nat) + rsum ll.length (fun t => cnt true (lsF ll t) 0) - rsum ll.length (fun t => cnt false (lsF ll t) 0)) (1 : Nat) (lsF ll) m)
    (fun i m t h => by obtain ⟨gs, v, h, ho⟩ := h.step t; exact ⟨gs, v, h.mono (by omega), ho⟩) (fun i m t h => by obtain ⟨gs, v, h, ho⟩ := h; exact ⟨gs, v, (h.poke t).mono (by omega), ho⟩) ms 0 _ ⟨_, _, sem_init hn hl (f := 1) (by decide), one_init ha h0⟩
  rw [Nat.zero_add] at this
  exact this

/-- Whoever is neither asleep nor at its end can go on. -/
theorem sem_stop {gs : Nat → GZ} {v : Int} {z : MZ} (h : SemJ B E n R first ls gs v z) (hno : ∀ t, t < z.ts.length → canZ z (t : Int) = false) {t : Nat} (ht : t < n) : (gs t).y.dn = true ∨ slp z.ss t = true := by
  cases hs : slp z.ss t with
  | true => exact .inr rfl
  | false =>
    cases hd : (gs t).y.dn with
    | true => exact .inl rfl
    | false =>
      exfalso
      have := can_in (h.sys.ts t ht) (show (conc _ (gs t)).dn = false from hd) (fun s hs' e => by
        rw [slp, List.any_eq_false] at hs
        exact hs s hs' (by simpa using e))
      rw [hno t (by rw [h.sys.ln]; exact ht)] at this
      cases this

theorem sem_done {gs : Nat → GZ} {v : Int} {z : MZ} (h : SemJ B E n R first ls gs v z) {t : Nat} (ht : t < n) (hd : (gs t).y.dn = true) : gvG (ls t) (gs t) = 0 ∧ tkG (ls t) (gs t) = 0 ∧ pdG (ls t) (gs t) = 0 ∧ saG (ls t) (gs t) = 0 := by
  obtain ⟨r1, r2, r3, _, h1 | ⟨h1, _⟩⟩ := h.th t ht
  · have hb : (ls t)[(ls t).length]? = none := List.getElem?_eq_none_iff.2 (Nat.le_refl _)
    rw [gvG, tkG, pdG, saG, h1.2, hb, cnt_end (by omega), cnt_end (by omega), Nat.sub_self]
    exact ⟨rfl, rfl, rfl, rfl⟩
  · rw [hd] at h1; cases h1

theorem rsum_zero {n : Nat} {g : Nat → Nat} (h : ∀ s, s < n → g s = 0) : rsum n g = 0 := by
  have := rsum_const n 0 g fun s hs => by rw [h s hs]; exact Nat.le_refl _
  omega

theorem rsum_one {n t : Nat} {g : Nat → Nat} (ht : t < n) : g t ≤ rsum n g := by
  have := rsum_upd (n := n) (t := t) (g := fun s => if s = t then g t else 0) (h := g) ht fun s _ hne => by rw [if_neg hne]; exact Nat.zero_le _
  have h2 := rsum_upd (n := n) (t := t) (g := fun _ => 0) (h := fun s => if s = t then g t else 0) ht fun s _ hne => Nat.zero_le _
  simp only [if_true] at this h2
  have h3 := rsum_zero (n := n) (g := fun _ => 0) fun _ _ => rfl
  omega

theorem sem_fin {z0 : MZ} (h : SemI B E n R first ls z0) (hb : B < 20000) : ∃ gs v, SemJ B E n R first ls gs v (finish z0) ∧ ∀ t, t < (finish z0).ts.length → canZ (finish z0) (t : Int) = false := by
  have hw : WF z0 := by obtain ⟨_, _, h⟩ := h; exact h.sys.wf
  obtain ⟨⟨gs, v, h1⟩, h2⟩ := finish_inv (P := SemI B E n R first ls) (fun m t hP _ _ => hP.step t) h hw
  have hk : (finish z0).k < 20000 := by have := h1.pot; omega
  refine ⟨gs, v, h1, fun t ht => ?_⟩
  have := h2 t ht
  cases hcz : canZ (finish z0) (t : Int) with
  | false => rfl
  | true => exact absurd ⟨hcz, hk⟩ this

theorem semO_fin {z0 : MZ} (h : SemO B E n R first ls z0) (hb : B < 20000) : ∃ gs v, SemJ B E n R first ls gs v (finish z0) ∧ OneJ n ls gs v (finish z0).al ∧ ∀ t, t < (finish z0).ts.length → canZ (finish z0) (t : Int) = false := by
  have hw : WF z0 := by obtain ⟨_, _, h, _⟩ := h; exact h.sys.wf
  obtain ⟨⟨gs, v, h1, ho⟩, h2⟩ := finish_inv (P := SemO B E n R first ls) (fun m t hP _ _ => hP.step t) h hw
  have hk : (finish z0).k < 20000 := by have := h1.pot; omega
  refine ⟨gs, v, h1, ho, fun t ht => ?_⟩
  have := h2 t ht
  cases hcz : canZ (finish z0) (t : Int) with
  | false => rfl
  | true => exact absurd ⟨hcz, hk⟩ this

/-- Where nobody can go on, and somebody sleeps, there is nothing. -/
theorem sem_none {gs : Nat → GZ} {v : Int} {z : MZ} (h : SemJ B E n R first ls gs v z) (hno : ∀ t, t < z.ts.length → canZ z (t : Int) = false) (hs : z.ss ≠ []) : v = 0 := by
  have h1 := h.jn hs
  have h2 := rsum_zero (n := n) (g := fun s => if slp z.ss s = true then 0 else pdG (ls s) (gs s)) fun s hsn => by
    try dsimp only
    rcases sem_stop h hno hsn with h3 | h3
    · split
      · rfl
      · exact (sem_done h hsn h3).2.2.1
    · rw [if_pos h3]
  rw [h2] at h1
  have := h.v0
  omega

theorem sem_all {gs : Nat → GZ} {v : Int} {z : MZ} (h : SemJ B E n R first ls gs v z) (hno : ∀ t, t < z.ts.length → canZ z (t : Int) = false) (hs : z.ss = []) : (∀ t, t < n → (gs t).y.dn = true) ∧ ∀ x ∈ z.ts, x.dn = true := by
  have h1 : ∀ t, t < n → (gs t).y.dn = true := fun t ht => by
    rcases sem_stop h hno ht with h1 | h1
    · exact h1
    · rw [hs] at h1; cases h1
  refine ⟨h1, fun x hx => ?_⟩
  obtain ⟨t, ht⟩ := List.mem_iff_getElem?.1 hx
  have htn : t < n := by rw [← h.sys.ln]; exact (List.getElem?_eq_some_iff.1 ht).1
  rw [h.sys.ts t htn] at ht
  obtain rfl := Option.some.inj ht
  exact h1 t htn

theorem all_ofS {m : MZ} (h : ∀ x ∈ m.ts, x.dn = true) : allZ m = true := List.all_eq_true.2 h
theorem stuck_ofS {m : MZ} (h : ∀ x ∈ m.ts, x.dn = true) : stuckZ m = false := by rw [stuckZ, all_ofS h, Bool.not_true, Bool.and_false]

/-- In the end, where no thread that gives takes. -/
theorem sem_ends {gs : Nat → GZ} {v : Int} {z : MZ} (h : SemJ B E n R first ls gs v z) (hno : ∀ t, t < z.ts.length → canZ z (t : Int) = false) (hp : ∀ t, t < n → (∀ b ∈ ls t, b = false) ∨ ∀ b ∈ ls t, b = true) :
    allZ z = decide (0 ≤ R) ∧ stuckZ z = decide (R < 0) ∧ v = max 0 R := by
  have hv := h.hv
  have hgv : rsum n (fun t => gvG (ls t) (gs t)) = 0 := rsum_zero fun t ht => by
    rcases sem_stop h hno ht with h1 | h1
    · exact (sem_done h ht h1).1
    · rw [slp, List.any_eq_true] at h1
      obtain ⟨s, hs, e⟩ := h1
      obtain ⟨_, h2, h3, _⟩ := h.sl s hs
      have e : s.t = (t : Int) := by simpa using e
      rw [e, Int.toNat_natCast] at h2 h3
      rcases hp t ht with hp | hp
      · rw [gvG, h2]
        show cnt true (ls t) _ + 0 = 0
        rw [Nat.add_zero, cnt, List.count_eq_zero]
        intro hm
        have := hp true (List.mem_of_mem_drop hm)
        cases this
      · have := hp false (List.mem_of_getElem? h2)
        cases this
  rw [hgv] at hv
  by_cases hs : z.ss = []
  · obtain ⟨h1, h2⟩ := sem_all h hno hs
    have htk : rsum n (fun t => tkG (ls t) (gs t)) = 0 := rsum_zero fun t ht => (sem_done h ht (h1 t ht)).2.1
    have hv0 := h.v0
    rw [htk] at hv
    rw [all_ofS h2, stuck_ofS h2, decide_eq_true (by omega), decide_eq_false (by omega)]
    exact ⟨rfl, rfl, by omega⟩
  · have hv0 := sem_none h hno hs
    obtain ⟨s, hs'⟩ : ∃ s, s ∈ z.ss := List.exists_mem_of_ne_nil _ hs
    obtain ⟨_, h2, h3, h4⟩ := h.sl s hs'
    have hsn := h.sys.wf.ss.2 s hs'
    rw [h.sys.ln] at hsn
    have h5 : 1 ≤ tkG (ls s.t.toNat) (gs s.t.toNat) := by
      rw [tkG, h2, h3]
      show 1 ≤ _ + 1
      omega
    have h6 := rsum_one (n := n) (t := s.t.toNat) (g := fun t => tkG (ls t) (gs t)) (by omega)
    try dsimp only at h6
    have hRn : R < 0 := by omega
    have hall : allZ z = false := by
      rw [allZ, List.all_eq_false]
      exact ⟨_, List.mem_of_getElem? (h.sys.ts s.t.toNat (by omega)), by show ¬ (gs s.t.toNat).y.dn = true; rw [h4]; decide⟩
    rw [hall, decide_eq_false (by omega), decide_eq_true hRn, stuckZ, hall]
    refine ⟨rfl, ?_, by omega⟩
    rw [Bool.not_false, Bool.and_true, List.all_eq_true]
    intro t ht
    have := hno t (List.mem_range.1 ht)
    rw [this]; rfl

end
end Go.Mac
