/- Threads that trade: each step keeps what holds. -/
import Derived.Test.YtlimhldkkbaohaaDoorQTrS
open Go Go.Proofs Go.Mac
set_option maxRecDepth 100000
namespace Go.Mac

theorem sum_same {f g : Nat → Nat} : ∀ {n : Nat}, (∀ s, s < n → f s = g s) → rsum n f = rsum n g
  | 0, _ => rfl
  | n + 1, h => by rw [rsum_succ, rsum_succ, sum_same fun s hs => h s (by omega), h n (by omega)]

theorem sum_both (f g : Nat → Nat) : ∀ n, rsum n (fun t => f t + g t) = rsum n f + rsum n g
  | 0 => rfl
  | n + 1 => by rw [rsum_succ, rsum_succ, rsum_succ, sum_both f g n]; omega

theorem sum_if (p : Nat) : ∀ n, rsum n (fun s => if s = p then 1 else 0) = if p < n then 1 else 0
  | 0 => rfl
  | n + 1 => by
    rw [rsum_succ, sum_if p n]
    by_cases h : n = p
    · subst h
      rw [if_neg (by omega), if_pos rfl, if_pos (by omega)]
    · rw [if_neg h]
      by_cases h2 : p < n
      · rw [if_pos h2, if_pos (by omega)]
      · rw [if_neg h2, if_neg (by omega)]

theorem sum_two {n t s : Nat} {f g : Nat → Nat} (ht : t < n) (hs : s < n) (h : ∀ u, u < n → f u = g u + ((if u = t then 1 else 0) + (if u = s then 1 else 0))) : rsum n f = rsum n g + 2 := by
  rw [sum_same h, sum_both g, sum_both (fun u => if u = t then 1 else 0), sum_if, sum_if, if_pos ht, if_pos hs]

theorem wakeOne_no {c : Int} {m : Nat} (hm : 1 ≤ m) : ∀ l : List Slp, (wakeL c 1 m l).2 = l
  | [] => rfl
  | x :: xs => by
    rw [wakeL, if_neg (by omega)]
    show x :: (wakeL c 1 m xs).2 = _
    rw [wakeOne_no hm xs]

theorem wakeOne {c : Int} : ∀ l : List Slp, (l.map (·.t)).Nodup → (∀ s ∈ l, s.c = s.t + 1) → l.length ≤ (wakeL c 1 0 l).2.length + 1 ∧ ∀ s ∈ (wakeL c 1 0 l).2, s ∈ l ∧ s.c ≠ c
  | [], _, _ => ⟨by simp, fun s hs => by cases hs⟩
  | x :: xs, hd, hs => by
    rw [List.map_cons, List.nodup_cons] at hd
    rw [wakeL]
    by_cases hx : x.c = c
    · rw [if_pos ⟨hx, by decide⟩]
      show _ ≤ (wakeL c 1 1 xs).2.length + 1 ∧ ∀ s ∈ (wakeL c 1 1 xs).2, _
      rw [wakeOne_no (by decide)]
      refine ⟨by simp, fun s hsm => ⟨List.mem_cons_of_mem _ hsm, fun e => hd.1 (List.mem_map.2 ⟨s, hsm, ?_⟩)⟩⟩
      have h1 := hs x (by simp)
      have h2 := hs s (List.mem_cons_of_mem _ hsm)
      show s.t = x.t
      omega
    · rw [if_neg fun h => hx h.1]
      obtain ⟨i1, i2⟩ := wakeOne (c := c) xs hd.2 fun s hsm => hs s (List.mem_cons_of_mem _ hsm)
      refine ⟨by show _ ≤ (x :: _).length + 1; simp only [List.length_cons]; omega, fun s hsm => ?_⟩
      rcases List.mem_cons.1 hsm with rfl | hsm
      · exact ⟨by simp, hx⟩
      · obtain ⟨h1, h2⟩ := i2 s hsm
        exact ⟨List.mem_cons_of_mem _ h1, h2⟩

theorem trE_c {v : VZt} {c c' : Int} (h : v.off = true → (c ≠ v.w ↔ c' ≠ v.w)) : trE c v = trE c' v := by
  unfold trE
  by_cases h1 : v.got = true ∨ v.clr = true ∨ v.tk ≠ 0
  · rw [if_pos h1, if_pos h1]
  · rw [if_neg h1, if_neg h1]
    by_cases h2 : v.off = true
    · have := h h2
      by_cases h3 : c = v.w
      · have h4 : c' = v.w := Classical.byContradiction fun hne => this.2 hne h3
        rw [if_neg fun h => h.2 h3, if_neg fun h => h.2 h4]
      · have h4 := this.1 h3
        rw [if_pos ⟨h2, h3⟩, if_pos ⟨h2, h4⟩]
    · rw [if_neg fun h => h2 h.1, if_neg fun h => h2 h.1]

theorem tr_off {n t : Nat} {l : List (Nat × Nat)} {g : GZ} (ht : t < n) (hq : ∀ q ∈ l, q.1 = t + 1 ∧ 1 ≤ q.2 ∧ q.2 ≤ 100) (h : TrG n l g) (ho : (viewG l g).off = true) : wd n (viewG l g).w ∧ (viewG l g).got = false ∧ (viewG l g).clr = false ∧ (viewG l g).tk = 0 ∧ (viewG l g).wk = 0 := by
  obtain ⟨r1, r2, r3, r4, r5, r6, hrg, hcase⟩ := h
  obtain ⟨j, o, rg, dn⟩ := g
  dsimp only at hrg hcase
  subst hrg
  rcases hcase with ⟨_, h1⟩ | ⟨_, ⟨q, hb, hok⟩ | ⟨h1, _⟩⟩
  · have hb : l[j]? = none := List.getElem?_eq_none_iff.2 (by omega)
    rw [viewG] at ho
    dsimp only at ho
    rw [hb] at ho
    cases ho
  · obtain ⟨hq1, hq2, hq3⟩ := hq q (List.mem_of_getElem? hb)
    rw [vw_at hb] at ho ⊢
    have ho : offN o r3 = true := ho
    show wd n (if offN o r3 = true then r5 else 0) ∧ _
    rw [if_pos ho]
    simp [offN] at ho
    have h5 := hok.2.2.1 (by omega)
    refine ⟨⟨t + 1, q.2, by omega, by omega, by omega, by omega, by omega⟩, ?_, ?_, ?_, ?_⟩
    · simp [trView]; omega
    · simp [trView]; omega
    · simp only [trView]; rw [if_neg (by omega)]
    · simp only [trView]; rw [if_neg (by omega)]
  · have hb : l[j]? = none := List.getElem?_eq_none_iff.2 (by omega)
    rw [viewG] at ho
    dsimp only at ho
    rw [hb] at ho
    cases ho

theorem wd_mono {n m : Nat} (h : n ≤ m) {r : Int} (hw : wd n r) : wd m r := by
  obtain ⟨p, N, h1, h2, h3⟩ := hw
  exact ⟨p, N, h1, by omega, h3⟩

theorem wd_big {n : Nat} {r : Int} (hw : wd n r) : 65536 ≤ r := by
  obtain ⟨p, N, h1, h2, h3, h4, rfl⟩ := hw
  omega

section
variable {B n : Nat} {ls : Nat → List (Nat × Nat)} {gs : Nat → GZ} {ws : List Int} {m : MZ}

set_option maxHeartbeats 2000000 in
theorem tr_stepG (h : TrJ B n ls gs ws m) {t : Nat} (hc : canZ m t = true) (hk : m.k < 20000) : ∃ g' ws' e, LS 17 ((ls t).map trdB) (gs t) ws g' ws' e ∧ TrOut n t (ls t) (gs t) ws g' ws' e ∧ TrJ B n ls (updG gs t g') ws' (stepZ m t).2 := by
  obtain ⟨ht, hd, hno⟩ := h.sys.can hc
  have hn8 := h.hn
  have off {u : Nat} (hu : u < n) := tr_off hu (h.hq u hu) (h.th u hu)
  have h0 : rgZ ws 0 = 0 ∨ wd n (rgZ ws 0) := by
    by_cases hz : rgZ ws 0 = 0
    · exact .inl hz
    · obtain ⟨u, hu, ho, hw⟩ := h.tv.a hz
      rw [hw]
      exact .inr (off hu ho).1
  have hlen : ws.length = 17 := by
    have := h.sys.wf.nc
    rw [h.sys.ws, h.sys.nk] at this
    exact this
  obtain ⟨g', ws', e, hl, hT, hs', hout⟩ := tr_local hn8 ht (h.hq t ht) h0 (h.th t ht) (h.saw t ht) hd
  have hfun : (fun s => viewG (ls s) (updG gs t g' s)) = updV (fun s => viewG (ls s) (gs s)) t (viewG (ls t) g') := by
    funext s
    by_cases hst : s = t
    · subst hst; rw [updG_same, updV_same]
    · rw [updG_ne _ _ hst, updV_ne _ _ hst]
  have hne : ∀ s ∈ m.ss, s.t.toNat ≠ t ∧ s.t = (s.t.toNat : Int) ∧ s.t.toNat < n := fun s hs => by
    have h1 := h.sys.wf.ss.2 s hs
    rw [h.sys.ln] at h1
    exact ⟨fun e => hno s hs (by omega), by omega, by omega⟩
  have hkp : ∀ _ : Unit, (viewG (ls t) (gs t)).wk = 0 → ∀ s ∈ m.ss, xF ws s.t.toNat ≠ 0 → ∃ u, u < n ∧ (viewG (ls u) (updG gs t g' u)).wk = s.t + 1 := fun _ hwk s hs hx => by
    obtain ⟨_, _, _, _, h5⟩ := h.sl s hs
    obtain ⟨u, hu, h6⟩ := h5 hx
    refine ⟨u, hu, ?_⟩
    have hut : u ≠ t := fun e => by
      subst e
      rw [hwk] at h6
      have := hne s hs
      omega
    rw [updG_ne _ _ hut]
    exact h6
  have hsz : ∀ v (j : Nat), rgZ (rgS ws 0 v) (j : Int) = if j = 0 then v else rgZ ws (j : Int) := fun v j => rg_set (i := 0) (by omega) j v
  have hs0 : ∀ v, rgZ (rgS ws 0 v) 0 = v := fun v => (hsz v 0).trans (if_pos rfl)
  have hsx : ∀ v, xF (rgS ws 0 v) = xF ws := fun v => funext fun s => (hsz v (s + 1)).trans (if_neg (by omega))
  have hp1 : ∀ (u : Nat) v, u < n → rgZ (rgS ws ((u + 1 : Nat) : Int) v) 0 = rgZ ws 0 := fun u v hu => (rg_set (i := u + 1) (by omega) 0 v).trans (if_neg (by omega))
  have hpx : ∀ (u : Nat) v, u < n → xF (rgS ws ((u + 1 : Nat) : Int) v) = updV (xF ws) u v := fun u v hu => funext fun s => (rg_set (i := u + 1) (by omega) (s + 1) v).trans (by
    by_cases hsu : s = u
    · subst hsu; rw [if_pos rfl, updV_same]
    · rw [if_neg (by omega), updV_ne _ _ hsu])
  have hpar1 : ∀ _ : Unit, g'.j + trE (rgZ ws 0) (viewG (ls t) g') = (gs t).j + trE (rgZ ws 0) (viewG (ls t) (gs t)) → ∃ h, rsum n (fun s => (updG gs t g' s).j + trE (rgZ ws 0) (viewG (ls s) (updG gs t g' s))) = 2 * h := fun _ e => by
    obtain ⟨q, hq⟩ := h.par
    refine ⟨q, ?_⟩
    rw [← hq]
    have := rsum_set (n := n) (gs := gs) (g := gs t) (fun s g => g.j + trE (rgZ ws 0) (viewG (ls s) g)) (g' := g') ht rfl
    try dsimp only at this
    omega
  refine ⟨g', ws', e, hl, hout, ?_⟩
  cases hout with
  | quiet hw he hv hk' hpar hp =>
    subst hw
    refine tr_quiet h hc hk rfl hl hT hv hk' hpar hs' (fun ss => ?_) ?_ hp
    · rcases he with rfl | ⟨_, _, rfl⟩ | ⟨_, _, _, rfl⟩ <;> rfl
    · rcases he with rfl | ⟨_, _, rfl⟩ | ⟨_, _, _, rfl⟩
      · exact .inl rfl
      · exact .inl rfl
      · exact .inr ⟨_, rfl, .inr (.inl rfl)⟩
  | take hw hc0 he hv hv' hk' hj hp =>
    subst hw he
    obtain ⟨htv, t', ht', htt, hm, hoff, hcw, huq⟩ := h.tv.take (v' := viewG (ls t) g') ht ⟨hv.1, hv.2.1, hv.2.2.1⟩ hc0 hv'
    refine tr_upd h hc hk rfl hl hT (by rw [hfun, hs0, hsx]; exact htv) hs' (fun s _ _ hx => by rw [hsx]; exact hx) (fun s hs => .inl hs) (fun s hs hx => hkp () hk' s hs (by rw [hsx] at hx; exact hx)) ?_ (fun a ha => ?_) (d := 5) (f := 0) (p := 0) (.inr rfl) (.inl ⟨fun s _ _ => by rw [hsx], rfl⟩) (by rw [hs0, hsx]; show _ + 8 * _ + 8 * 5 + 0 + 1 ≤ _ + 8 * m.ss.length; omega)
    · obtain ⟨q, hq⟩ := h.par
      refine ⟨q + 1, ?_⟩
      rw [sum_two (g := fun s => (gs s).j + trE (rgZ ws 0) (viewG (ls s) (gs s))) ht ht' fun u hu => ?_, hq]
      · omega
      · rw [hs0]
        by_cases hut : u = t
        · subst hut
          have htu : u ≠ t' := fun e => htt e.symm
          rw [updG_same, if_pos rfl, if_neg htu, hj]
          have e1 : trE 0 (viewG (ls u) g') = 1 := by rw [trE, if_pos (.inr (.inr (by rw [hv'.2.2]; omega)))]
          have e2 : trE (rgZ ws 0) (viewG (ls u) (gs u)) = 0 := by rw [trE, hv.1, hv.2.1, hv.2.2.1, hv.2.2.2, if_neg (by simp), if_neg (by simp)]
          rw [e1, e2]
        · rw [updG_ne _ _ hut, if_neg hut]
          by_cases hut' : u = t'
          · subst hut'
            rw [if_pos rfl]
            obtain ⟨o1, o2, o3, o4, _⟩ := off hu hoff
            have hoff : (viewG (ls u) (gs u)).off = true := hoff
            have hcw : rgZ ws 0 = (viewG (ls u) (gs u)).w := hcw
            have e1 : trE 0 (viewG (ls u) (gs u)) = 1 := by
              rw [trE, o2, o3, o4, if_neg (by simp), if_pos ⟨hoff, fun e => by have := wd_big o1; omega⟩]
            have e2 : trE (rgZ ws 0) (viewG (ls u) (gs u)) = 0 := by rw [trE, o2, o3, o4, if_neg (by simp), if_neg fun h => h.2 hcw]
            rw [e1, e2]
          · rw [if_neg hut']
            have : trE 0 (viewG (ls u) (gs u)) = trE (rgZ ws 0) (viewG (ls u) (gs u)) := trE_c fun ho => by
              have := wd_big (off hu ho).1
              have h2 : rgZ ws 0 ≠ (viewG (ls u) (gs u)).w := fun e => hut' (huq u hu ho e)
              exact ⟨fun _ => h2, fun _ => by omega⟩
            rw [this]
            rfl
    · rcases List.mem_append.1 ha with ha | ha
      · exact h.fo a ha
      · rw [List.mem_singleton.1 ha]
        refine .inr (.inr ⟨rfl, .inr ⟨rfl, ?_, ?_⟩⟩)
        · exact wd_mono hn8 (h0.resolve_left hc0)
        · show rgZ ws 0 % 65536 ≠ (t : Int) + 1
          omega
  | put N hN hw he hv hv' hk' hk2 hj hp =>
    obtain ⟨t', ht', htt, htk, hx0, htv⟩ := h.tv.put (v' := viewG (ls t) g') (N := N) ht hv ⟨hv'.1, hv'.2.1, hv'.2.2.1⟩ hN
    have htk : (viewG (ls t) (gs t)).tk = ((t' + 1 : Nat) : Int) := htk
    obtain ⟨x, he⟩ := he
    rw [htk] at hw he hk2
    rw [Int.toNat_natCast] at he
    subst hw he
    have exx := hpx t' N ht'
    have ex0 := hp1 t' N ht'
    refine tr_upd h hc hk rfl hl hT (by rw [hfun, ex0, exx]; exact htv) hs' (fun s _ _ hx => ?_) (fun s hs => .inl hs) (fun s hs hx => ?_) ?_ (fun a ha => ?_) (d := 0) (f := 8) (p := t') (.inl ⟨ex0, rfl⟩) (.inr ⟨fun s _ _ hsp => by rw [exx, updV_ne _ _ hsp], rfl⟩) ?_
    · rw [exx]
      by_cases hst : s = t'
      · rw [hst, updV_same]; exact hN
      · rw [updV_ne _ _ hst]; exact hx
    · by_cases hst : s.t.toNat = t'
      · refine ⟨t, ht, ?_⟩
        rw [updG_same, hk2]
        have := hne s hs
        omega
      · rw [exx, updV_ne _ _ hst] at hx
        exact hkp () hk' s hs hx
    · rw [ex0]
      refine hpar1 () ?_
      rw [hj, trE, if_pos (.inl hv'.2.2.2), trE, if_pos (.inr (.inr hv.2.2))]
    · rcases List.mem_append.1 ha with ha | ha
      · exact h.fo a ha
      · rw [List.mem_singleton.1 ha]
        refine .inl ?_
        show ((t' + 1 : Nat) : Int) ≠ 0
        omega
    · rw [ex0, exx, updV_ne _ _ (fun e => htt e.symm)]
      show _ + 8 * _ + 8 * 0 + 8 + 1 ≤ _ + 8 * m.ss.length
      omega
  | wake hw he hv hpar hp =>
    subst hw he
    obtain ⟨w1, w2⟩ := wakeOne (c := ((viewG (ls t) (gs t)).wk.toNat : Int)) m.ss h.sys.wf.ss.1 fun s hs => (h.sl s hs).1
    have hss : effWS t m.ss (.wake (viewG (ls t) (gs t)).wk.toNat 1) = (wakeL ((viewG (ls t) (gs t)).wk.toNat : Int) 1 0 m.ss).2 := rfl
    refine tr_upd h hc hk rfl hl hT (tr_same h rfl hv) hs' (fun s _ _ hx => hx) (fun s hs => .inl (by rw [hss] at hs; exact (w2 s hs).1)) (fun s hs hx => ?_) (hpar1 () hpar) h.fo (d := 0) (f := 0) (p := 0) (.inl ⟨rfl, rfl⟩) (.inl ⟨fun s _ _ => rfl, rfl⟩) (by rw [hss]; omega)
    rw [hss] at hs
    obtain ⟨hs2, hsc⟩ := w2 s hs
    clear hs
    have hns := hne s hs2
    obtain ⟨h1, _, _, _, h5⟩ := h.sl s hs2
    obtain ⟨u, hu, h6⟩ := h5 hx
    refine ⟨u, hu, ?_⟩
    have hut : u ≠ t := fun e => by
      rw [e] at h6
      omega
    rw [updG_ne _ _ hut]
    exact h6
  | offer hw hc0 he hv hv' hww hk' hj hp =>
    have htv0 := h.tv
    rw [hc0] at htv0
    obtain ⟨htv, hun⟩ := htv0.offer (v' := viewG (ls t) g') ht ⟨hv.1, hv.2.1, hv.2.2.1⟩ ⟨hv'.1, hv'.2.1, hv'.2.2.1⟩ ⟨hww.1, hww.2.1⟩
    subst hw he
    refine tr_upd h hc hk rfl hl hT (by rw [hfun, hs0, hsx]; exact htv) hs' (fun s _ _ hx => by rw [hsx]; exact hx) (fun s hs => .inl hs) (fun s hs hx => hkp () hk' s hs (by rw [hsx] at hx; exact hx)) ?_ (fun a ha => ?_) (d := 5) (f := 0) (p := 0) (.inr rfl) (.inl ⟨fun s _ _ => by rw [hsx], rfl⟩) (by rw [hs0, hsx, hc0]; show _ + 8 * _ + 8 * 5 + 0 + 1 ≤ _ + 8 * m.ss.length; omega)
    · obtain ⟨q, hq⟩ := h.par
      refine ⟨q, ?_⟩
      rw [← hq, hs0]
      refine sum_same fun u hu => ?_
      by_cases hut : u = t
      · subst hut
        rw [updG_same, hj]
        have e1 : trE (viewG (ls u) g').w (viewG (ls u) g') = 0 := by rw [trE, hv'.2.1, hv'.2.2.1, hv'.2.2.2, if_neg (by simp), if_neg fun h => h.2 rfl]
        have e2 : trE (rgZ ws 0) (viewG (ls u) (gs u)) = 0 := by rw [trE, hv.1, hv.2.1, hv.2.2.1, hv.2.2.2, if_neg (by simp), if_neg (by simp)]
        rw [e1, e2]
      · rw [updG_ne _ _ hut, hc0]
        have : trE (viewG (ls t) g').w (viewG (ls u) (gs u)) = trE 0 (viewG (ls u) (gs u)) := trE_c fun ho => by
          have h1 := wd_big (off hu ho).1
          have h2 := hun u hu hut ho
          exact ⟨fun _ => by omega, fun _ => h2⟩
        rw [this]
    · rcases List.mem_append.1 ha with ha | ha
      · exact h.fo a ha
      · rw [List.mem_singleton.1 ha]
        exact .inr (.inr ⟨rfl, .inl ⟨rfl, wd_mono hn8 hww.2.2, hww.1⟩⟩)
  | seen hw he hx hv hv' hk' hj hp =>
    subst hw he
    have htv := h.tv.seen (v' := viewG (ls t) g') ht hv hx hv'
    refine tr_upd h hc hk rfl hl hT (by rw [hfun]; exact htv) hs' (fun s _ _ hx => hx) (fun s hs => .inl hs) (fun s hs hx => hkp () hk' s hs hx) (hpar1 () ?_) h.fo (d := 0) (f := 0) (p := 0) (.inl ⟨rfl, rfl⟩) (.inl ⟨fun s _ _ => rfl, rfl⟩) (by show _ + 8 * _ + 8 * 0 + 0 + 1 ≤ _ + 8 * m.ss.length; omega)
    have hcw := (h.tv.b t hx).2.2 hv.1
    obtain ⟨_, o2, o3, o4, _⟩ := off ht hv.1
    rw [hj, trE, if_pos (.inr (.inl hv'.2.1)), trE, o2, o3, o4, if_neg (by simp), if_pos ⟨hv.1, hcw⟩]
  | sleep hw hx he hv hk' hpar hsl hp =>
    subst hw he
    refine tr_upd h hc hk rfl hl hT (tr_same h rfl hv) hs' (fun s _ _ hx => hx) (fun s hs => ?_) (fun s hs hx' => ?_) (hpar1 () hpar) h.fo (d := 0) (f := 0) (p := 0) (.inl ⟨rfl, rfl⟩) (.inl ⟨fun s _ _ => rfl, rfl⟩) (by show _ + 8 * _ + 8 * 0 + 0 + 1 ≤ _ + 8 * (m.ss ++ [_]).length; rw [List.length_append]; simp only [List.length_singleton]; omega)
    · rcases List.mem_append.1 hs with hs | hs
      · exact .inl hs
      · exact .inr ⟨List.mem_singleton.1 hs, hsl⟩
    · rcases List.mem_append.1 hs with hs | hs
      · exact hkp () hk' s hs hx'
      · rw [List.mem_singleton.1 hs] at hx'
        rw [Int.toNat_natCast] at hx'
        exact absurd hx hx'
  | clear hw he hv hv' hk' hj hp =>
    obtain ⟨x, he⟩ := he
    have htv := h.tv.clear (v' := viewG (ls t) g') ht ⟨hv.1, hv.2.2⟩ ⟨hv'.1, hv'.2.1, hv'.2.2.1⟩
    subst hw he
    have exx := hpx t 0 ht
    have ex0 := hp1 t 0 ht
    refine tr_upd h hc hk rfl hl hT (by rw [hfun, ex0, exx]; exact htv) hs' (fun s _ hst hx => by rw [exx, updV_ne _ _ hst]; exact hx) (fun s hs => .inl hs) (fun s hs hx => ?_) ?_ (fun a ha => ?_) (d := 0) (f := 0) (p := 0) (.inl ⟨ex0, rfl⟩) (.inl ⟨fun s _ hst => by rw [exx, updV_ne _ _ hst], rfl⟩) ?_
    · rw [exx, updV_ne _ _ (hne s hs).1] at hx
      exact hkp () hk' s hs hx
    · rw [ex0]
      refine hpar1 () ?_
      rw [hj, trE, if_pos (.inl hv'.2.2.2), trE, if_pos (.inr (.inl hv.2.1))]
    · rcases List.mem_append.1 ha with ha | ha
      · exact h.fo a ha
      · rw [List.mem_singleton.1 ha]
        refine .inl ?_
        show ((t + 1 : Nat) : Int) ≠ 0
        omega
    · rw [ex0, exx, updV_same]
      show _ + 8 * _ + 8 * 0 + 0 + 1 ≤ _ + 8 * m.ss.length
      omega

theorem tr_step (h : TrJ B n ls gs ws m) {t : Nat} (hc : canZ m t = true) (hk : m.k < 20000) : ∃ gs' ws', TrJ B n ls gs' ws' (stepZ m t).2 := by
  obtain ⟨g', ws', e, _, _, h⟩ := tr_stepG h hc hk
  exact ⟨_, _, h⟩

end
end Go.Mac
