/- Threads that trade: from the start, behind anything, and in the end; the programs as bodies. -/
import Derived.Test.YtlimhldkkbaohaaDoorQTrT
import Derived.Test.YtlimhldkkbaohaaDoorQSwapped
import Derived.Test.YtlimhldkkbaohaaDoorQTrades
import Derived.Test.YtlimhldkkbaohaaDoorQLookers
open Go Go.Proofs Go.Mac
set_option maxRecDepth 100000
namespace Go.Mac

section
variable {B n : Nat} {ls : Nat → List (Nat × Nat)} {gs : Nat → GZ} {ws : List Int} {m : MZ}

def TrI (B n : Nat) (ls : Nat → List (Nat × Nat)) (m : MZ) : Prop := ∃ gs ws, TrJ B n ls gs ws m

theorem TrJ.mono {B' : Nat} (h : TrJ B n ls gs ws m) (hb : B ≤ B') : TrJ B' n ls gs ws m :=
  ⟨h.sys, h.hn, h.hq, h.th, h.tv, h.saw, h.sl, h.par, h.fo, h.told, Nat.le_trans h.pot hb⟩

theorem TrI.step (h : TrI B n ls m) (t : Int) : TrI B n ls (stepZ m t).2 := by
  obtain ⟨gs, v, h⟩ := h
  rcases step_or h.sys.wf t with e | ⟨s, rfl, hc, hk⟩
  · rw [e]; exact ⟨gs, v, h⟩
  · exact tr_step h hc hk

theorem TrJ.poke (h : TrJ B n ls gs ws m) (t : Int) : TrJ (B + 8) n ls gs ws (pokeZ m t) := by
  refine ⟨h.sys.poke t, h.hn, h.hq, h.th, h.tv, h.saw, fun s hs => h.sl s (List.mem_filter.1 hs).1, h.par, h.fo, h.told, ?_⟩
  have h1 := h.pot
  have h2 := filter_lenS (t := t) h.sys.wf.ss.1
  show m.k + (rsum n (fun t => trLp (rgZ ws 0) (xF ws t) (ls t) (gs t)) + 8 * (n - (m.ss.filter fun s => s.t != t).length)) ≤ B + 8
  omega

end

theorem trdB_okF : ∀ p : Fin 9, ∀ N : Fin 101, ((trdB (p.val, N.val)).all fun i => okI 17 24 i) = true := by decide +kernel

theorem trdB_ok {q : Nat × Nat} (h1 : q.1 ≤ 8) (h2 : q.2 ≤ 100) : ∀ i ∈ trdB q, okI 17 (((trdB q).length : Int) + 1) i = true :=
  List.all_eq_true.1 (trdB_okF ⟨q.1, by omega⟩ ⟨q.2, by omega⟩)

def qOk (t : Nat) (l : List (Nat × Nat)) : Prop := ∀ q ∈ l, q.1 = t + 1 ∧ 1 ≤ q.2 ∧ q.2 ≤ 100

theorem tr_right {t : Nat} (ht : t < 8) {l : List (Nat × Nat)} (hl : l.length ≤ 6) (hq : qOk t l) : rightZ (catP (l.map trdB)) 17 = true := by
  refine catP_right (by decide) (fun b hb => ?_) ?_
  · obtain ⟨c, hc, rfl⟩ := List.mem_map.1 hb
    have := hq c hc
    exact trdB_ok (by omega) (by omega)
  · have := offB_le (n := 23) (l.map trdB) (fun b hb => by obtain ⟨c, _, rfl⟩ := List.mem_map.1 hb; exact Nat.le_refl 23) (l.map trdB).length
    rw [List.length_map] at this ⊢
    omega

def trM (ll : List (List (Nat × Nat))) : MZ := mz0 (ll.map fun l => catP (l.map trdB)) slots0

def lsQ (ll : List (List (Nat × Nat))) (t : Nat) : List (Nat × Nat) := ll.getD t []
theorem lsQ_get {ll : List (List (Nat × Nat))} {t : Nat} (h : t < ll.length) : ll[t]? = some (lsQ ll t) := by
  rw [lsQ, List.getD_eq_getElem?_getD, List.getElem?_eq_getElem h]; rfl
theorem lsQ_mem {ll : List (List (Nat × Nat))} {t : Nat} (h : t < ll.length) : lsQ ll t ∈ ll := List.mem_of_getElem? (lsQ_get h)

theorem slots0_get (k : Nat) : rgZ slots0 (k : Int) = 0 := by
  rw [rgZ, slots0, Int.toNat_natCast, List.getD_eq_getElem?_getD, List.getElem?_replicate]
  split <;> rfl

theorem tr_init {ll : List (List (Nat × Nat))} (hn : ll.length ≤ 8) (hl : ∀ l ∈ ll, l.length ≤ 6) (hq : ∀ t, t < ll.length → qOk t (lsQ ll t)) : TrJ 3440 ll.length (lsQ ll) (fun _ => ⟨0, th0⟩) slots0 (trM ll) := by
  have hts : ∀ t, t < ll.length → (trM ll).ts[t]? = some th0 := fun t ht => by
    show (List.replicate (ll.map _).length th0)[t]? = _
    rw [List.length_map, List.getElem?_replicate, if_pos ht]
  have e1 : ∀ l : List (Nat × Nat), viewG l ⟨0, th0⟩ = v0t := fun l => vw_0 l 0 _ _
  have s0 : rsum ll.length (fun _ => 0) = 0 := rsum_zero fun _ _ => rfl
  have z0 : rgZ slots0 0 = 0 := slots0_get 0
  have zx : ∀ t, xF slots0 t = 0 := fun t => slots0_get (t + 1)
  refine ⟨⟨mz0_wf (by simp; omega) (by decide) (fun p hp => ?_) (by decide), by simp [trM, mz0], rfl, fun t ht => ?_, rfl, fun t ht => ?_⟩, hn, hq, fun t ht => ?_, ?_, fun t ht q _ h => ?_, (fun s hs => by cases hs), ⟨0, ?_⟩, (fun a ha => by cases ha), (fun s hs => rfl), ?_⟩
  · obtain ⟨t, ht⟩ := List.mem_iff_getElem?.1 hp
    rw [List.getElem?_map] at ht
    have htl : t < ll.length := by
      cases h : ll[t]? with
      | none => rw [h] at ht; cases ht
      | some l => exact (List.getElem?_eq_some_iff.1 h).1
    rw [lsQ_get htl] at ht
    obtain rfl := Option.some.inj ht
    exact tr_right (by omega) (hl _ (lsQ_mem htl)) (hq t htl)
  · show (ll.map _)[t]? = _
    rw [List.getElem?_map, lsQ_get ht]; rfl
  · rw [hts t ht]; rfl
  · refine ⟨0, 0, 0, 0, 0, 0, rfl, .inr ⟨rfl, ?_⟩⟩
    cases h : (lsQ ll t)[0]? with
    | none => exact .inr ⟨by have := List.getElem?_eq_none_iff.1 h; show 0 = _; omega, rfl⟩
    | some c => exact .inl ⟨c, by first | exact h | rfl, by simp [trOk, th0]⟩
  · simp only [e1]
    rw [z0]
    exact ⟨fun h => absurd rfl h, fun t h => absurd (zx t) h, fun s _ h => absurd rfl h, fun s s' _ _ h => absurd rfl h, (fun t _ h => by cases h), (fun t _ h => by cases h), fun t _ h => by cases h.1⟩
  · rcases h with ⟨h, _⟩ | h <;> cases h
  · simp only [e1]
    exact rsum_zero fun s _ => rfl
  · have h1 : rsum ll.length (fun t => trLp (rgZ slots0 0) (xF slots0 t) (lsQ ll t) ⟨0, th0⟩) ≤ ll.length * 421 := rsum_const _ _ _ fun t ht => by
      have h1 := tlp_0 (rgZ slots0 0) (xF slots0 t) (lsQ ll t) 0 th0.rg
      have h2 := hl _ (lsQ_mem ht)
      show trLp _ _ (lsQ ll t) ⟨0, ⟨0, th0.rg, false⟩⟩ ≤ 421
      omega
    have h2 : ll.length * 421 ≤ 8 * 421 := Nat.mul_le_mul_right _ hn
    show 0 + (_ + 8 * (ll.length - 0)) ≤ 3440
    omega

theorem tr_moves {ll : List (List (Nat × Nat))} (hn : ll.length ≤ 8) (hl : ∀ l ∈ ll, l.length ≤ 6) (hq : ∀ t, t < ll.length → qOk t (lsQ ll t)) (ms : List MoveZ) :
    TrI (3440 + 8 * ms.length) ll.length (lsQ ll) (movesZ (trM ll) ms) := by
  have := moves_inv (P := fun i m => TrI (3440 + 8 * i) ll.length (lsQ ll) m)
    (fun i m t h => by obtain ⟨gs, v, h⟩ := h.step t; exact ⟨gs, v, h.mono (by omega)⟩) (fun i m t h => by obtain ⟨gs, v, h⟩ := h; exact ⟨gs, v, (h.poke t).mono (by omega)⟩) ms 0 _ ⟨_, _, tr_init hn hl hq⟩
  rw [Nat.zero_add] at this
  exact this

/-- One's answers, all in all. -/
def told (n : Nat) (el : List EvZ) : Nat := rsum n fun t => (ansT t el).length

/-- In the end: at most one is left, whose offer stands; no cell of one's own holds a word; answers come in pairs. -/
theorem tr_fin {B n : Nat} {ls : Nat → List (Nat × Nat)} {z : MZ} (h : TrI B n ls z) (hb : B < 20000) :
    ∃ ws : List Int, (finish z).ws = ws ∧ ws.length = 17 ∧ (∀ k : Nat, 1 ≤ k → k ≤ 16 → rgZ ws k = 0) ∧ (∀ t s, t < n → s < n → (thZ (finish z) t).dn = false → (thZ (finish z) s).dn = false → t = s) ∧ ((rgZ ws 0 ≠ 0) ↔ ∃ t, t < n ∧ (thZ (finish z) t).dn = false) ∧
      (∃ q, told n (finish z).el = 2 * q) ∧ (finish z).ts.length = n := by
  have hw : WF z := by obtain ⟨_, _, h⟩ := h; exact h.sys.wf
  obtain ⟨h1, hno⟩ := fin_stop (P := TrI B n ls) (fun m t h => h.step t) (fun m h => by obtain ⟨_, _, h⟩ := h; have := h.pot; omega) h hw
  obtain ⟨gs, ws, hJ⟩ := h1
  generalize finish z = y at hJ hno ⊢
  have hlen : ws.length = 17 := by
    have := hJ.sys.wf.nc
    rw [hJ.sys.ws, hJ.sys.nk] at this
    exact this
  have hdn {t : Nat} (ht : t < n) : (thZ y t).dn = (gs t).y.dn := by
    rw [thZ, List.getD_eq_getElem?_getD, hJ.sys.ts t ht]
    rfl
  have none_of {t : Nat} (ht : t < n) (hd : (gs t).y.dn = true) : viewG (ls t) (gs t) = v0t := by
    obtain ⟨r1, r2, r3, r4, r5, r6, _, h1 | ⟨h1, _⟩⟩ := hJ.th t ht
    · have hb : (ls t)[(gs t).j]? = none := List.getElem?_eq_none_iff.2 (by omega)
      rw [viewG, hb]
    · rw [hd] at h1; cases h1
  have at18 {t : Nat} (hd : (gs t).y.dn = false) (ht : t < n) : ∃ q, (ls t)[(gs t).j]? = some q ∧ (gs t).y.pc = 18 ∧ ∃ s ∈ y.ss, s.t = t := by
    rcases hJ.sys.stop hno ht with hd' | ⟨s, hs, e⟩
    · rw [hd'] at hd; cases hd
    · obtain ⟨_, ⟨q, h1⟩, h2, _⟩ := hJ.sl s hs
      rw [e, Int.toNat_natCast] at h1 h2
      exact ⟨q, h1, h2, s, hs, e⟩
  have v18 {t : Nat} (hd : (gs t).y.dn = false) (ht : t < n) : ∃ r1 r3 r5 r6, viewG (ls t) (gs t) = trView 18 r1 r3 r5 r6 := by
    obtain ⟨q, h1, h2, _⟩ := at18 hd ht
    refine ⟨rgZ (gs t).y.rg 1, rgZ (gs t).y.rg 3, rgZ (gs t).y.rg 5, rgZ (gs t).y.rg 6, ?_⟩
    rw [viewG, h1]
    show trView (gs t).y.pc _ _ _ _ = _
    rw [h2]
  have rest {t : Nat} (ht : t < n) : (viewG (ls t) (gs t)).clr = false ∧ (viewG (ls t) (gs t)).tk = 0 ∧ (viewG (ls t) (gs t)).wk = 0 ∧ (viewG (ls t) (gs t)).got = false ∧ ((viewG (ls t) (gs t)).off = true ↔ (gs t).y.dn = false) := by
    cases hd : (gs t).y.dn with
    | true =>
      rw [none_of ht hd]
      exact ⟨rfl, rfl, rfl, rfl, by simp [v0t]⟩
    | false =>
      obtain ⟨r1, r3, r5, r6, e⟩ := v18 hd ht
      rw [e]
      exact ⟨rfl, rfl, rfl, rfl, by simp [trView, offN]⟩
  have hx0 {t : Nat} (ht : t < n) (hd : (gs t).y.dn = false) : xF ws t = 0 := Classical.byContradiction fun hne => by
    obtain ⟨_, _, _, s, hs, e⟩ := at18 hd ht
    obtain ⟨_, _, _, _, h5⟩ := hJ.sl s hs
    rw [e, Int.toNat_natCast] at h5
    obtain ⟨u, hu, h6⟩ := h5 hne
    have := (rest hu).2.2.1
    omega
  have hcw {t : Nat} (ht : t < n) (hd : (gs t).y.dn = false) : rgZ ws 0 = (viewG (ls t) (gs t)).w := Classical.byContradiction fun hne => by
    obtain ⟨s, hs, h1⟩ := hJ.tv.e t ht ((rest ht).2.2.2.2.2 hd) (hx0 ht hd) hne
    have := (rest hs).2.1
    omega
  have hxz : ∀ t, xF ws t = 0 := fun t => Classical.byContradiction fun hne => by
    obtain ⟨ht, h1, _⟩ := hJ.tv.b t hne
    rcases h1 with h1 | h1
    · exact hne (hx0 ht ((rest ht).2.2.2.2.1 h1))
    · have := (rest ht).1
      rw [this] at h1; cases h1
  refine ⟨ws, hJ.sys.ws, hlen, fun k h1 _ => ?_, fun t s ht hs h1 h2 => ?_, ⟨fun h0 => ?_, fun ⟨t, ht, h1⟩ => ?_⟩, ?_, hJ.sys.ln⟩
  · have := hxz (k - 1)
    rw [xF, show k - 1 + 1 = k by omega] at this
    exact this
  · rw [hdn ht] at h1
    rw [hdn hs] at h2
    exact hJ.tv.own ht hs ((rest ht).2.2.2.2.2 h1) ((rest hs).2.2.2.2.2 h2) ((hcw ht h1).symm.trans (hcw hs h2))
  · obtain ⟨t, ht, h1, _⟩ := hJ.tv.a h0
    exact ⟨t, ht, by rw [hdn ht]; exact (rest ht).2.2.2.2.1 h1⟩
  · rw [hdn ht] at h1
    rw [hcw ht h1]
    have := (hJ.tv.g t ht ((rest ht).2.2.2.2.2 h1)).2
    omega
  · obtain ⟨q, hq⟩ := hJ.par
    refine ⟨q, ?_⟩
    rw [← hq, told]
    refine sum_same fun t ht => ?_
    rw [hJ.told t ht]
    have e : trE (rgZ ws 0) (viewG (ls t) (gs t)) = 0 := by
      obtain ⟨r1, r2, _, r3, r4⟩ := rest ht
      rw [trE, r1, r2, r3, if_neg (by simp)]
      cases hd : (gs t).y.dn with
      | true => rw [none_of ht hd]; rfl
      | false => rw [if_neg fun h => h.2 (hcw ht hd)]
    rw [e]
    rfl

theorem trade_ins {id : Int} {p : Nat} {c : CallZ} {q : Nat × Nat} (h1 : (q.1 : Int) = 1 + id) (h2 : (q.2 : Int) = c.n + 1) : tradeIns id p c = (trdB q).map (relI (p : Int)) := by
  rw [tradeIns, trdB, ← h1, ← h2]
  rfl

def trdL (i j : Nat) : List (Nat × Nat) := (List.range j).map fun k => (i + 1, 10 * i + k + 1)
def trdsL (l : List (List Int)) : List (List (Nat × Nat)) := (l.take 8).mapIdx fun i x => trdL i (min x.length 6)

theorem trade_pairs (i : Nat) : ∀ (ks : List Nat) (out : List InsZ), (ks.map fun (k : Nat) => CallZ.mk 5 (10 * (i : Int) + (k : Int))).foldl (fun out c => out ++ tradeIns i out.length c) out = out ++ catU out.length ((ks.map fun k => (i + 1, 10 * i + k + 1)).map trdB)
  | [], out => by simp [catU]
  | k :: ks, out => by
    rw [List.map_cons, List.foldl_cons, trade_pairs i ks, trade_ins (q := (i + 1, 10 * i + k + 1)) (by show ((i + 1 : Nat) : Int) = _; omega) (by show ((10 * i + k + 1 : Nat) : Int) = (10 * (i : Int) + (k : Int)) + 1; omega)]
    simp only [List.map_cons, catU, List.length_append, List.length_map, List.append_assoc]

theorem tradeP_cat (i j : Nat) : tradeP i (tradJ i j) = catP ((trdL i j).map trdB) := by
  rw [tradeP, tradeU, tradJ, trade_pairs, catP, trdL]
  rfl

theorem trades_fit (l : List (List Int)) {i : Nat} {x : List CallZ} (h : (tradesZ l)[i]? = some x) : i < 8 ∧ ∃ j, j ≤ 6 ∧ x = tradJ i j := by
  rw [tradesZ, List.getElem?_mapIdx] at h
  cases hx : (l.take 8)[i]? with
  | none => rw [hx] at h; cases h
  | some y =>
    rw [hx] at h
    have := (List.getElem?_eq_some_iff.1 hx).1
    rw [List.length_take] at this
    exact ⟨by omega, _, by omega, (Option.some.inj h).symm⟩

theorem tradJ_fit {i j : Nat} (hi : i < 8) (hj : j ≤ 6) : ∀ c ∈ tradJ i j, tradeFit c := fun c hc => by
  obtain ⟨k, hk, rfl⟩ := List.mem_map.1 hc
  have := List.mem_range.1 hk
  refine ⟨rfl, ?_, ?_⟩
  · show 0 ≤ 10 * (i : Int) + (k : Int)
    omega
  · show 10 * (i : Int) + (k : Int) ≤ 1000
    omega

/-- What one needs to ask for such a machine. -/
theorem trades_made (l : List (List Int)) (ms : List MoveZ) : (tradesZ l).length = min l.length 8 ∧ ((trdsL l).map fun l => catP (l.map trdB)).length = min l.length 8 ∧ (∀ p ∈ (trdsL l).map fun l => catP (l.map trdB), rightZ p 17 = true) ∧
    (∀ (i : Nat) (x : List CallZ) (p : List InsZ), (tradesZ l)[i]? = some x → ((trdsL l).map fun l => catP (l.map trdB))[i]? = some p → p = tradeP i x) ∧
    TrI (3440 + 8 * ms.length) (min l.length 8) (lsQ (trdsL l)) (movesZ (mz0 ((trdsL l).map fun l => catP (l.map trdB)) slots0) ms) := by
  have hn : (trdsL l).length = min l.length 8 := by rw [trdsL, List.length_mapIdx, List.length_take]; omega
  have hg : ∀ {t : Nat} {x : List (Nat × Nat)}, (trdsL l)[t]? = some x → t < 8 ∧ ∃ j, j ≤ 6 ∧ x = trdL t j := fun {t x} h => by
    rw [trdsL, List.getElem?_mapIdx] at h
    cases hx : (l.take 8)[t]? with
    | none => rw [hx] at h; cases h
    | some y =>
      rw [hx] at h
      have := (List.getElem?_eq_some_iff.1 hx).1
      rw [List.length_take] at this
      exact ⟨by omega, _, by omega, (Option.some.inj h).symm⟩
  have hok : ∀ {t j : Nat}, t < 8 → j ≤ 6 → qOk t (trdL t j) := fun {t j} ht hj q hq => by
    obtain ⟨k, hk, rfl⟩ := List.mem_map.1 hq
    have := List.mem_range.1 hk
    exact ⟨rfl, by show 1 ≤ 10 * t + k + 1; omega, by show 10 * t + k + 1 ≤ 100; omega⟩
  refine ⟨by rw [tradesZ, List.length_mapIdx, List.length_take]; omega, by rw [List.length_map]; exact hn, fun p hp => ?_, fun i x p hx hp => ?_, ?_⟩
  · obtain ⟨x, hx, rfl⟩ := List.mem_map.1 hp
    obtain ⟨t, ht⟩ := List.mem_iff_getElem?.1 hx
    obtain ⟨h8, j, hj, rfl⟩ := hg ht
    exact tr_right h8 (by simp [trdL]; omega) (hok h8 hj)
  · rw [List.getElem?_map] at hp
    rw [tradesZ, List.getElem?_mapIdx] at hx
    rw [trdsL, List.getElem?_mapIdx] at hp
    cases hy : (l.take 8)[i]? with
    | none => rw [hy] at hx; cases hx
    | some y =>
      rw [hy] at hx hp
      obtain rfl := Option.some.inj hx
      obtain rfl := Option.some.inj hp
      exact (tradeP_cat _ _).symm
  · have := tr_moves (ll := trdsL l) (by omega) (fun x hx => by
      obtain ⟨t, ht⟩ := List.mem_iff_getElem?.1 hx
      obtain ⟨h8, j, hj, rfl⟩ := hg ht
      simp [trdL]; omega) (fun t ht => by
      obtain ⟨h8, j, hj, e⟩ := hg (lsQ_get ht)
      rw [e]
      exact hok h8 hj) ms
    rw [hn] at this
    exact this

end Go.Mac
