/- Threads that trade: who has whose word, whoever goes on when. -/
import Derived.Test.YtlimhldkkbaohaaDoorQTpZ
open Go Go.Proofs Go.Mac
set_option maxRecDepth 100000
namespace Go.Mac

/-- Each thread's words. -/
def wordsOk (n : Nat) (ls : Nat → List (Nat × Nat)) : Prop := ∀ t, t < n → (ls t).length ≤ 6 ∧ ∀ k q, (ls t)[k]? = some q → q = (t + 1, 10 * t + k + 1)

structure TpJ (n : Nat) (ls : Nat → List (Nat × Nat)) (gs : Nat → GZ) (ws : List Int) (el : List EvZ) (M : Int → Option Int) : Prop where
  sym : ∀ a b, M a = some b → M b = some a
  val : ∀ a b, M a = some b → a / 10 ≠ b / 10 ∧ ∃ t k : Nat, t < n ∧ k < (ls t).length ∧ a = 10 * (t : Int) + k
  fut : ∀ t k : Nat, t < n → (gs t).j < k → k < (ls t).length → M (10 * (t : Int) + k) = none
  k1 : ∀ t, t < n → ∀ y, knG (ls t) (gs t) = some y → M (10 * (t : Int) + (gs t).j) = some y
  k2 : ∀ t, t < n → (gs t).j < (ls t).length → knG (ls t) (gs t) = none → (viewG (ls t) (gs t)).off = false → M (10 * (t : Int) + (gs t).j) = none
  k3 : ∀ t, t < n → (viewG (ls t) (gs t)).off = true → (rgZ ws 0 = (viewG (ls t) (gs t)).w → M (10 * (t : Int) + (gs t).j) = none) ∧ (xF ws t ≠ 0 → M (10 * (t : Int) + (gs t).j) = some (xF ws t - 1))
  k4 : ∀ s t : Nat, s < n → t < n → (viewG (ls s) (gs s)).tk = t + 1 → knG (ls s) (gs s) = some ((viewG (ls t) (gs t)).w / 65536 - 1)
  an : ∀ (t k : Nat) (y : Int), t < n → (ansT t el)[k]? = some y → M (10 * (t : Int) + k) = some y

section
variable {B n : Nat} {ls : Nat → List (Nat × Nat)} {gs : Nat → GZ} {ws : List Int} {m : MZ} {el : List EvZ} {M : Int → Option Int}

theorem TpJ.num (h : TpJ n ls gs ws el M) (hW : wordsOk n ls) (hn : n ≤ 8) {a b : Int} (hM : M a = some b) : (0 ≤ a ∧ a < 1000) ∧ 0 ≤ b ∧ b < 1000 := by
  obtain ⟨_, t, k, ht, hk, rfl⟩ := h.val a b hM
  obtain ⟨_, s, i, hs, hi, rfl⟩ := h.val b _ (h.sym _ _ hM)
  have := (hW t ht).1
  have := (hW s hs).1
  omega

/-- A step that leaves who has whose word. -/
theorem TpJ.upd (h : TpJ n ls gs ws el M) {t : Nat} (ht : t < n) {g' : GZ} {ws' : List Int} (hj : g'.j = (gs t).j)
    (h1 : ∀ y, knG (ls t) g' = some y → M (10 * (t : Int) + (gs t).j) = some y)
    (h2 : (gs t).j < (ls t).length → knG (ls t) g' = none → (viewG (ls t) g').off = false → M (10 * (t : Int) + (gs t).j) = none)
    (h3 : (viewG (ls t) g').off = true → (rgZ ws' 0 = (viewG (ls t) g').w → M (10 * (t : Int) + (gs t).j) = none) ∧ (xF ws' t ≠ 0 → M (10 * (t : Int) + (gs t).j) = some (xF ws' t - 1)))
    (h3' : ∀ u, u < n → u ≠ t → (viewG (ls u) (gs u)).off = true → (rgZ ws' 0 = (viewG (ls u) (gs u)).w → M (10 * (u : Int) + (gs u).j) = none) ∧ (xF ws' u ≠ 0 → M (10 * (u : Int) + (gs u).j) = some (xF ws' u - 1)))
    (h4 : ∀ u : Nat, u < n → u ≠ t → (viewG (ls t) g').tk = u + 1 → knG (ls t) g' = some ((viewG (ls u) (gs u)).w / 65536 - 1))
    (h4' : ∀ s : Nat, s < n → s ≠ t → (viewG (ls s) (gs s)).tk = t + 1 → knG (ls s) (gs s) = some ((viewG (ls t) g').w / 65536 - 1))
    (h4s : (viewG (ls t) g').tk ≠ t + 1) : TpJ n ls (updG gs t g') ws' el M := by
  refine ⟨h.sym, h.val, fun u k hu => ?_, fun u hu => ?_, fun u hu => ?_, fun u hu => ?_, fun s u hs hu => ?_, h.an⟩
  · by_cases e : u = t
    · subst e; rw [updG_same, hj]; exact h.fut u k hu
    · rw [updG_ne _ _ e]; exact h.fut u k hu
  · by_cases e : u = t
    · subst e; rw [updG_same, hj]; exact h1
    · rw [updG_ne _ _ e]; exact h.k1 u hu
  · by_cases e : u = t
    · subst e; rw [updG_same, hj]; exact h2
    · rw [updG_ne _ _ e]; exact h.k2 u hu
  · by_cases e : u = t
    · subst e; rw [updG_same, hj]; exact h3
    · rw [updG_ne _ _ e]; exact h3' u hu e
  · by_cases e : s = t
    · subst e
      rw [updG_same]
      by_cases e2 : u = s
      · subst e2; exact fun hh => absurd hh h4s
      · rw [updG_ne _ _ e2]; exact h4 u hu e2
    · rw [updG_ne _ _ e]
      by_cases e2 : u = t
      · subst e2; rw [updG_same]; exact h4' s hs e
      · rw [updG_ne _ _ e2]; exact h.k4 s u hs hu

def M2 (M : Int → Option Int) (a b : Int) : Int → Option Int := fun x => if x = a then some b else if x = b then some a else M x

/-- Two come together. -/
theorem TpJ.pair (h : TpJ n ls gs ws el M) (hW : wordsOk n ls) {t p : Nat} (ht : t < n) (hp : p < n) (htp : p ≠ t) {g' : GZ} {ws' : List Int} (hj : g'.j = (gs t).j)
    (hlt : (gs t).j < (ls t).length) (hlp : (gs p).j < (ls p).length) (ha : M (10 * (t : Int) + (gs t).j) = none) (hb : M (10 * (p : Int) + (gs p).j) = none)
    (hk : knG (ls t) g' = some (10 * (p : Int) + (gs p).j)) (hoff : (viewG (ls t) g').off = false) (hoff0 : (viewG (ls t) (gs t)).off = false) (hpo : (viewG (ls p) (gs p)).off = true) (htk : (viewG (ls t) g').tk = p + 1)
    (hpw : (viewG (ls p) (gs p)).w / 65536 - 1 = 10 * (p : Int) + (gs p).j) (hc : ∀ u, u < n → (viewG (ls u) (gs u)).off = true → rgZ ws' 0 ≠ (viewG (ls u) (gs u)).w) (hx : ∀ u, xF ws' u = xF ws u) (hxp : xF ws p = 0)
    (htc : ∀ s, s < n → (viewG (ls s) (gs s)).tk ≠ t + 1) : TpJ n ls (updG gs t g') ws' el (M2 M (10 * (t : Int) + (gs t).j) (10 * (p : Int) + (gs p).j)) := by
  have hWt := hW t ht
  have hWp := hW p hp
  have hab : (10 * (t : Int) + (gs t).j) / 10 ≠ (10 * (p : Int) + (gs p).j) / 10 := by omega
  have hne : ∀ u : Nat, u ≠ t → u ≠ p → u < n → ∀ k : Nat, k < (ls u).length → 10 * (u : Int) + k ≠ 10 * (t : Int) + (gs t).j ∧ 10 * (u : Int) + k ≠ 10 * (p : Int) + (gs p).j := fun u h1 h2 hu k hk => by
    have := (hW u hu).1
    omega
  generalize hA : 10 * (t : Int) + (gs t).j = a at *
  generalize hB : 10 * (p : Int) + (gs p).j = b at *
  have hne2 : a ≠ b := fun e => hab (by rw [e])
  have keep : ∀ x y, M x = some y → M2 M a b x = some y := fun x y hM => by
    rw [M2, if_neg (fun e => by rw [e, ha] at hM; cases hM), if_neg (fun e => by rw [e, hb] at hM; cases hM)]
    exact hM
  have ma : M2 M a b a = some b := if_pos rfl
  have mb : M2 M a b b = some a := by rw [M2, if_neg hne2.symm, if_pos rfl]
  have cas : ∀ x y, M2 M a b x = some y → (x = a ∧ y = b) ∨ (x = b ∧ y = a) ∨ M x = some y := fun x y hM => by
    rw [M2] at hM
    by_cases e1 : x = a
    · rw [if_pos e1] at hM; exact .inl ⟨e1, (Option.some.inj hM).symm⟩
    · rw [if_neg e1] at hM
      by_cases e2 : x = b
      · rw [if_pos e2] at hM; exact .inr (.inl ⟨e2, (Option.some.inj hM).symm⟩)
      · rw [if_neg e2] at hM; exact .inr (.inr hM)
  have non : ∀ x, x ≠ a → x ≠ b → M x = none → M2 M a b x = none := fun x h1 h2 h3 => by rw [M2, if_neg h1, if_neg h2]; exact h3
  refine ⟨fun x y hM => ?_, fun x y hM => ?_, fun u k hu h1 h2 => ?_, fun u hu y hy => ?_, fun u hu h1 h2 h3 => ?_, fun u hu h1 => ?_, fun s u hs hu h1 => ?_, fun u k y hu hy => keep _ _ (h.an u k y hu hy)⟩
  · rcases cas x y hM with ⟨rfl, rfl⟩ | ⟨rfl, rfl⟩ | hM
    · exact mb
    · exact ma
    · exact keep _ _ (h.sym _ _ hM)
  · rcases cas x y hM with ⟨rfl, rfl⟩ | ⟨rfl, rfl⟩ | hM
    · exact ⟨hab, t, (gs t).j, ht, hlt, hA.symm⟩
    · exact ⟨fun e => hab e.symm, p, (gs p).j, hp, hlp, hB.symm⟩
    · exact h.val x y hM
  · have h0 : M (10 * (u : Int) + k) = none ∧ ((u = t → (gs t).j < k) ∧ (u = p → (gs p).j < k)) := by
      by_cases e : u = t
      · subst e
        rw [updG_same, hj] at h1
        exact ⟨h.fut u k hu h1 h2, fun _ => h1, fun e => absurd e.symm htp⟩
      · rw [updG_ne _ _ e] at h1
        exact ⟨h.fut u k hu h1 h2, fun e' => absurd e' e, fun e' => by subst e'; exact h1⟩
    have := (hW u hu).1
    refine non _ ?_ ?_ h0.1
    · have := h0.2.1
      omega
    · have := h0.2.2
      omega
  · by_cases e : u = t
    · subst e
      rw [updG_same] at hy ⊢
      rw [hk] at hy
      obtain rfl := Option.some.inj hy
      rw [hj, hA]
      exact ma
    · rw [updG_ne _ _ e] at hy ⊢
      exact keep _ _ (h.k1 u hu y hy)
  · by_cases e : u = t
    · subst e
      rw [updG_same, hk] at h2
      cases h2
    · rw [updG_ne _ _ e] at h1 h2 h3 ⊢
      have hup : u ≠ p := fun e' => by subst e'; rw [hpo] at h3; cases h3
      obtain ⟨n1, n2⟩ := hne u e hup hu _ h1
      exact non _ n1 n2 (h.k2 u hu h1 h2 h3)
  · by_cases e : u = t
    · subst e
      rw [updG_same, hoff] at h1
      cases h1
    · rw [updG_ne _ _ e] at h1 ⊢
      refine ⟨fun hw => absurd hw (hc u hu h1), fun hxx => ?_⟩
      rw [hx] at hxx ⊢
      exact keep _ _ ((h.k3 u hu h1).2 hxx)
  · by_cases e : s = t
    · subst e
      rw [updG_same] at h1 ⊢
      rw [htk] at h1
      obtain rfl : u = p := by omega
      rw [updG_ne _ _ htp, hk, hpw]
    · rw [updG_ne _ _ e] at h1 ⊢
      have hut : u ≠ t := fun e' => by subst e'; exact htc s hs h1
      rw [updG_ne _ _ hut]
      exact h.k4 s u hs hu h1

theorem tr_w {n t : Nat} {l : List (Nat × Nat)} {g : GZ} (hW : ∀ k q, l[k]? = some q → q = (t + 1, 10 * t + k + 1)) (h : TrG n l g) (ho : (viewG l g).off = true) : (viewG l g).w = ((t + 1 : Nat) : Int) + ((10 * t + g.j + 1 : Nat) : Int) * 65536 ∧ g.j < l.length := by
  obtain ⟨r1, r2, r3, r4, r5, r6, hrg, hcase⟩ := h
  obtain ⟨j, o, rg, dn⟩ := g
  dsimp only at hrg hcase
  subst hrg
  rcases hcase with ⟨_, h1⟩ | ⟨_, ⟨q, hb, hok⟩ | ⟨h1, _⟩⟩
  · have hb : l[j]? = none := List.getElem?_eq_none_iff.2 (by omega)
    rw [viewG] at ho
    dsimp only at ho
    rw [hb] at ho
    cases ho
  · have hq := hW j q hb
    rw [vw_at hb] at ho ⊢
    have ho : offN o r3 = true := ho
    show (if offN o r3 = true then r5 else 0) = _ ∧ _
    rw [if_pos ho]
    simp [offN] at ho
    have h5 := hok.2.2.1 (by omega)
    rw [h5, hq]
    exact ⟨rfl, (List.getElem?_eq_some_iff.1 hb).1⟩
  · have hb : l[j]? = none := List.getElem?_eq_none_iff.2 (by omega)
    rw [viewG] at ho
    dsimp only at ho
    rw [hb] at ho
    cases ho

def TpI (B n : Nat) (ls : Nat → List (Nat × Nat)) (m : MZ) : Prop := ∃ gs ws M, TrJ B n ls gs ws m ∧ TpJ n ls gs ws m.el M

set_option maxHeartbeats 2000000 in
theorem tp_step (hW : wordsOk n ls) (h : TrJ B n ls gs ws m) (hP : TpJ n ls gs ws m.el M) {t : Nat} (hc : canZ m t = true) (hk : m.k < 20000) : TpI B n ls (stepZ m t).2 := by
  obtain ⟨ht, hd, hno⟩ := h.sys.can hc
  have hn8 := h.hn
  obtain ⟨g', ws', e, hl, hout, hJ⟩ := tr_stepG h hc hk
  obtain ⟨_, _, _, hel, _⟩ := h.sys.ls hc hk rfl hl
  have h0 : rgZ ws 0 = 0 ∨ wd n (rgZ ws 0) := by
    by_cases hz : rgZ ws 0 = 0
    · exact .inl hz
    · obtain ⟨u, hu, ho, hw⟩ := h.tv.a hz
      rw [hw]
      exact .inr (tr_off hu (h.hq u hu) (h.th u hu) ho).1
  have hlen : ws.length = 17 := by
    have := h.sys.wf.nc
    rw [h.sys.ws, h.sys.nk] at this
    exact this
  have hsz : ∀ v (j : Nat), rgZ (rgS ws 0 v) (j : Int) = if j = 0 then v else rgZ ws (j : Int) := fun v j => rg_set (i := 0) (by omega) j v
  have hs0 : ∀ v, rgZ (rgS ws 0 v) 0 = v := fun v => (hsz v 0).trans (if_pos rfl)
  have hsx : ∀ v, xF (rgS ws 0 v) = xF ws := fun v => funext fun s => (hsz v (s + 1)).trans (if_neg (by omega))
  have hp1 : ∀ (u : Nat) v, u < n → rgZ (rgS ws ((u + 1 : Nat) : Int) v) 0 = rgZ ws 0 := fun u v hu => (rg_set (i := u + 1) (by omega) 0 v).trans (if_neg (by omega))
  have hpx : ∀ (u : Nat) v, u < n → xF (rgS ws ((u + 1 : Nat) : Int) v) = updV (xF ws) u v := fun u v hu => funext fun s => (rg_set (i := u + 1) (by omega) (s + 1) v).trans (by
    by_cases hsu : s = u
    · subst hsu; rw [if_pos rfl, updV_same]
    · rw [if_neg (by omega), updV_ne _ _ hsu])
  obtain ⟨g2, ws2, e2, hl2, htp⟩ := tp_local hn8 ht (h.hq t ht) h0 (h.th t ht) hd (fun y hy => (hP.num hW hn8 (hP.k1 t ht y hy)).2)
  obtain ⟨rfl, rfl, rfl⟩ := hl.det hl2
  clear hl2
  have wof {u : Nat} (hu : u < n) := tr_w (hW u hu).2 (h.th u hu)
  -- a step without a word
  have nosay : (∀ a y, e ≠ .say a y) → (stepZ m t).2.el = m.el := fun hs => by
    rw [hel]
    cases e with
    | say a y => exact absurd rfl (hs a y)
    | _ => rfl
  have tks : (viewG (ls t) (gs t)).tk ≠ t + 1 := fun e => by
    obtain ⟨p, hp, e1, e2, _⟩ := h.tv.c t ht (by show (viewG (ls t) (gs t)).tk ≠ 0; omega)
    have e1 : (viewG (ls t) (gs t)).tk = p + 1 := e1
    obtain rfl : p = t := by omega
    have e2 : (viewG (ls p) (gs p)).off = true := e2
    obtain ⟨_, _, _, o4, _⟩ := tr_off ht (h.hq p ht) (h.th p ht) e2
    omega
  have k3' := fun (u : Nat) (hu : u < n) (_ : u ≠ t) (ho : (viewG (ls u) (gs u)).off = true) => hP.k3 u hu ho
  have hsame : ws' = ws → sameV (viewG (ls t) (gs t)) (viewG (ls t) g') → g'.j = (gs t).j → knG (ls t) g' = knG (ls t) (gs t) → TpJ n ls (updG gs t g') ws' m.el M := fun hw hv hj hkn => by
    subst hw
    obtain ⟨v1, v2, v3, v4⟩ := hv
    refine hP.upd ht hj (fun y hy => hP.k1 t ht y (by rw [← hkn]; exact hy)) (fun h1 h2 h3 => hP.k2 t ht h1 (by rw [← hkn]; exact h2) (by rw [← v1]; exact h3)) (fun h1 => by rw [v4]; exact hP.k3 t ht (by rw [← v1]; exact h1)) k3' (fun u hu _ h1 => ?_) (fun s hs _ h1 => ?_) (by rw [v3]; exact tks)
    · rw [hkn]; exact hP.k4 t u ht hu (by rw [← v3]; exact h1)
    · rw [v4]; exact hP.k4 s t hs ht h1
  cases hout with
  | quiet hw he hv hk' hpar hp =>
    cases htp with
    | same hj hkn hs hN ho hc' hT =>
      exact ⟨_, _, M, hJ, by rw [nosay hs]; exact hsame hw hv hj hkn⟩
    | read hj ho hx hkn he' =>
      obtain ⟨c, x, y, he'⟩ := he'
      subst hw
      obtain ⟨v1, v2, v3, v4⟩ := hv
      refine ⟨_, _, M, hJ, ?_⟩
      rw [nosay (fun a y e1 => by rw [he'] at e1; cases e1)]
      have h3 := hP.k3 t ht ho
      refine hP.upd ht hj (fun y hy => by rw [hkn] at hy; obtain rfl := Option.some.inj hy; exact h3.2 hx) (fun h1 h2 _ => by rw [hkn] at h2; cases h2) (fun _ => by rw [v4]; exact h3) k3' (fun u hu _ h1 => ?_) (fun s hs _ h1 => ?_) (by rw [v3]; exact tks)
      · rw [v3] at h1
        have := (tr_off ht (h.hq t ht) (h.th t ht) ho).2.2.2.1
        omega
      · rw [v4]; exact hP.k4 s t hs ht h1
    | take hj h1 h1' => exact absurd (hv.2.2.1.trans h1) h1'
    | say z hj hkn hkn' he' hvz =>
      subst hw he'
      refine ⟨_, _, M, hJ, ?_⟩
      have hM := hP.k1 t ht z hkn
      obtain ⟨_, hz0, hz1⟩ := hP.num hW hn8 hM
      have hzw : IntKind.i64.wrap z = z := wrap_i64 _ (by omega) (by omega)
      have hel' : (stepZ m t).2.el = m.el ++ [⟨((m.k + 1 : Nat) : Int), 3, (t : Int), z⟩] := by rw [hel, hzw]; rfl
      rw [hel']
      obtain ⟨v1, v2, v3, v4⟩ := hv
      have off' : (viewG (ls t) g').off = false := by rw [hvz]; rfl
      have tk' : (viewG (ls t) g').tk = 0 := by rw [hvz]; rfl
      refine ⟨hP.sym, hP.val, fun u k hu h1 h2 => ?_, fun u hu y hy => ?_, fun u hu h1 h2 h3 => ?_, fun u hu h1 => ?_, fun s u hs hu h1 => ?_, fun u k y hu hy => ?_⟩
      · by_cases e : u = t
        · subst e; rw [updG_same, hj] at h1; exact hP.fut u k hu (by omega) h2
        · rw [updG_ne _ _ e] at h1; exact hP.fut u k hu h1 h2
      · by_cases e : u = t
        · subst e; rw [updG_same, hkn'] at hy; cases hy
        · rw [updG_ne _ _ e] at hy ⊢; exact hP.k1 u hu y hy
      · by_cases e : u = t
        · subst e
          rw [updG_same] at h1 ⊢
          exact hP.fut u _ hu (by rw [hj]; omega) h1
        · rw [updG_ne _ _ e] at h1 h2 h3 ⊢; exact hP.k2 u hu h1 h2 h3
      · by_cases e : u = t
        · subst e; rw [updG_same, off'] at h1; cases h1
        · rw [updG_ne _ _ e] at h1 ⊢; exact hP.k3 u hu h1
      · by_cases e : s = t
        · subst e; rw [updG_same, tk'] at h1; omega
        · rw [updG_ne _ _ e] at h1 ⊢
          by_cases e2 : u = t
          · subst e2
            exfalso
            obtain ⟨p, hp, e1, e2, _⟩ := h.tv.c s hs (by show (viewG (ls s) (gs s)).tk ≠ 0; omega)
            have e1 : (viewG (ls s) (gs s)).tk = p + 1 := e1
            obtain rfl : p = u := by omega
            have e2 : (viewG (ls p) (gs p)).off = true := e2
            rw [← v1, off'] at e2
            cases e2
          · rw [updG_ne _ _ e2]; exact hP.k4 s u hs hu h1
      · rw [ansT_snoc] at hy
        by_cases hut : u = t
        · subst hut
          rw [if_pos ⟨rfl, rfl⟩] at hy
          rcases Nat.lt_or_ge k (ansT u m.el).length with hk' | hk'
          · rw [List.getElem?_append_left hk'] at hy
            exact hP.an u k y hu hy
          · rw [List.getElem?_append_right hk'] at hy
            have hl := h.told u hu
            cases hq : k - (ansT u m.el).length with
            | zero =>
              rw [hq] at hy
              obtain rfl : z = y := by simpa using hy
              obtain rfl : k = (gs u).j := by omega
              exact hM
            | succ q => rw [hq] at hy; simp at hy
        · rw [if_neg fun h => hut (by have := h.2; dsimp only at this; omega)] at hy
          exact hP.an u k y hu hy
  | take hw hc0 he hv hv' hk' hj hp =>
    subst hw he
    obtain ⟨_, p, hpn, hpt, hm, hoff, hcw, huq⟩ := h.tv.take (v' := viewG (ls t) g') ht ⟨hv.1, hv.2.1, hv.2.2.1⟩ hc0 hv'
    have hoff : (viewG (ls p) (gs p)).off = true := hoff
    have hcw : rgZ ws 0 = (viewG (ls p) (gs p)).w := hcw
    obtain ⟨hpw, hpl⟩ := wof hpn hoff
    cases htp with
    | same hj' hkn hs hN ho hc' hT => exact absurd hv.2.2.1 (hT (by rw [hv'.2.2]; omega))
    | read hj' ho => rw [hv.1] at ho; cases ho
    | say z hj' => omega
    | take hj' h1 h1' hkn hkn' hlt he' =>
      obtain ⟨c, x, y, he'⟩ := he'
      have hbw : (viewG (ls p) (gs p)).w / 65536 - 1 = 10 * (p : Int) + (gs p).j := by rw [hpw]; omega
      refine ⟨_, _, M2 M (10 * (t : Int) + (gs t).j) (10 * (p : Int) + (gs p).j), hJ, ?_⟩
      rw [nosay (fun a y e1 => by cases e1)]
      refine hP.pair hW ht hpn hpt hj hlt hpl (hP.k2 t ht hlt hkn hv.1) ((hP.k3 p hpn hoff).1 hcw) (by rw [hkn', hcw, hbw]) hv'.1 hv.1 hoff (by rw [hv'.2.2]; exact hm) hbw (fun u hu ho e => ?_) (fun u => by rw [hsx]) ?_ (fun s hs e1 => ?_)
      · rw [hs0] at e
        have := wd_big (tr_off hu (h.hq u hu) (h.th u hu) ho).1
        omega
      · exact Classical.byContradiction fun hne => (h.tv.b p hne).2.2 hoff hcw
      · obtain ⟨p', hp', e2, e3, _⟩ := h.tv.c s hs (by show (viewG (ls s) (gs s)).tk ≠ 0; omega)
        have e2 : (viewG (ls s) (gs s)).tk = p' + 1 := e2
        obtain rfl : p' = t := by omega
        have e3 : (viewG (ls p') (gs p')).off = true := e3
        rw [hv.1] at e3
        cases e3
  | put N hN hw he hv hv' hk' hk2 hj hp =>
    obtain ⟨p, hpn, hpt, htk, hx0, _⟩ := h.tv.put (v' := viewG (ls t) g') (N := N) ht hv ⟨hv'.1, hv'.2.1, hv'.2.2.1⟩ hN
    have htk : (viewG (ls t) (gs t)).tk = ((p + 1 : Nat) : Int) := htk
    obtain ⟨x, he⟩ := he
    cases htp with
    | say z hj' => omega
    | read hj' ho => rw [hv.1] at ho; cases ho
    | take hj' h1 => exact absurd h1 hv.2.2
    | same hj' hkn hs hNq ho hc' hT =>
      obtain ⟨q, hq, hNq⟩ := hNq _ _ _ he hv.2.2
      have hq2 := (hW t ht).2 _ _ hq
      have hN2 : N - 1 = 10 * (t : Int) + (gs t).j := by rw [hNq, hq2]; show ((10 * t + (gs t).j + 1 : Nat) : Int) - 1 = _; omega
      obtain ⟨p', hp', e1, hoff, _⟩ := h.tv.c t ht hv.2.2
      have e1 : (viewG (ls t) (gs t)).tk = p' + 1 := e1
      obtain rfl : p' = p := by omega
      have hoff : (viewG (ls p') (gs p')).off = true := hoff
      obtain ⟨hpw, hpl⟩ := wof hpn hoff
      have hM : M (10 * (t : Int) + (gs t).j) = some (10 * (p' : Int) + (gs p').j) := by
        rw [hP.k1 t ht _ (hP.k4 t p' ht hpn e1), hpw]
        congr 1
        omega
      have hM' := hP.sym _ _ hM
      rw [htk] at hw
      subst hw
      refine ⟨_, _, M, hJ, ?_⟩
      rw [nosay hs]
      refine hP.upd ht hj (fun y hy => hP.k1 t ht y (by rw [← hkn]; exact hy)) (fun h1 h2 h3 => hP.k2 t ht h1 (by rw [← hkn]; exact h2) hv.1) (fun h1 => by rw [hv'.1] at h1; cases h1) (fun u hu hut ho' => ?_) (fun u hu _ h1 => ?_) (fun s hs _ h1 => ?_) (by rw [hv'.2.2.1]; omega)
      · rw [hp1 p' N hpn, hpx p' N hpn]
        by_cases hup : u = p'
        · subst hup
          rw [updV_same, hN2]
          exact ⟨(hP.k3 u hu ho').1, fun _ => hM'⟩
        · rw [updV_ne _ _ hup]; exact hP.k3 u hu ho'
      · rw [hv'.2.2.1] at h1; omega
      · exfalso
        obtain ⟨p'', hp'', e2, e3, _⟩ := h.tv.c s hs (by show (viewG (ls s) (gs s)).tk ≠ 0; omega)
        have e2 : (viewG (ls s) (gs s)).tk = p'' + 1 := e2
        obtain rfl : p'' = t := by omega
        have e3 : (viewG (ls p'') (gs p'')).off = true := e3
        rw [hv.1] at e3
        cases e3
  | wake hw he hv hpar hp =>
    cases htp with
    | same hj hkn hs hN ho hc' hT => exact ⟨_, _, M, hJ, by rw [nosay hs]; exact hsame hw hv hj hkn⟩
    | read hj ho hx hkn he' => obtain ⟨c, x, y, he'⟩ := he'; rw [he] at he'; cases he'
    | take hj h1 h1' => exact absurd (hv.2.2.1.trans h1) h1'
    | say z hj hkn hkn' he' => rw [he] at he'; cases he'
  | offer hw hc0 he hv hv' hww hk' hj hp =>
    cases htp with
    | say z hj' => omega
    | read hj' ho => rw [hv.1] at ho; cases ho
    | take hj' h1 h1' => exact absurd hv'.2.2.1 h1'
    | same hj' hkn hs hN ho hc' hT =>
      obtain ⟨hk0, hlt⟩ := ho hv.1 hv'.1
      have hMn := hP.k2 t ht hlt hk0 hv.1
      have htv0 := h.tv
      rw [hc0] at htv0
      obtain ⟨_, hun⟩ := htv0.offer (v' := viewG (ls t) g') ht ⟨hv.1, hv.2.1, hv.2.2.1⟩ ⟨hv'.1, hv'.2.1, hv'.2.2.1⟩ ⟨hww.1, hww.2.1⟩
      have hxt : xF ws t = 0 := Classical.byContradiction fun hne => by
        have h1 := (h.tv.b t hne).2.1
        have h1 : (viewG (ls t) (gs t)).off = true ∨ (viewG (ls t) (gs t)).clr = true := h1
        rw [hv.1, hv.2.1] at h1
        simp at h1
      subst hw
      refine ⟨_, _, M, hJ, ?_⟩
      rw [nosay hs]
      refine hP.upd ht hj (fun y hy => by rw [hkn, hk0] at hy; cases hy) (fun h1 h2 h3 => by rw [hv'.1] at h3; cases h3) (fun _ => ?_) (fun u hu hut ho' => ?_) (fun u hu _ h1 => ?_) (fun s hs _ h1 => ?_) (by rw [hv'.2.2.1]; omega)
      · rw [hs0, hsx]
        exact ⟨fun _ => hMn, fun hx => absurd hxt hx⟩
      · rw [hs0, hsx]
        exact ⟨fun e => absurd e (hun u hu hut ho'), (hP.k3 u hu ho').2⟩
      · rw [hv'.2.2.1] at h1; omega
      · exfalso
        obtain ⟨p'', hp'', e2, e3, _⟩ := h.tv.c s hs (by show (viewG (ls s) (gs s)).tk ≠ 0; omega)
        have e2 : (viewG (ls s) (gs s)).tk = p'' + 1 := e2
        obtain rfl : p'' = t := by omega
        have e3 : (viewG (ls p'') (gs p'')).off = true := e3
        rw [hv.1] at e3
        cases e3
  | seen hw he hx hv hv' hk' hj hp =>
    cases htp with
    | say z hj' => omega
    | read hj ho hx hkn he' => obtain ⟨c, x, y, he'⟩ := he'; rw [he] at he'; cases he'
    | take hj h1 h1' => exact absurd hv'.2.2 h1'
    | same hj' hkn hs hN ho hc' hT =>
      have hk0 := hc' hv.1 hv'.1
      subst hw
      refine ⟨_, _, M, hJ, ?_⟩
      rw [nosay hs]
      refine hP.upd ht hj (fun y hy => hP.k1 t ht y (by rw [← hkn]; exact hy)) (fun h1 h2 h3 => absurd (hkn.symm.trans h2) hk0) (fun h1 => by rw [hv'.1] at h1; cases h1) k3' (fun u hu _ h1 => ?_) (fun s hs _ h1 => ?_) (by rw [hv'.2.2]; omega)
      · rw [hv'.2.2] at h1; omega
      · exfalso
        obtain ⟨p'', hp'', e2, e3, e4, _⟩ := h.tv.c s hs (by show (viewG (ls s) (gs s)).tk ≠ 0; omega)
        have e2 : (viewG (ls s) (gs s)).tk = p'' + 1 := e2
        obtain rfl : p'' = t := by omega
        exact hx e4
  | sleep hw hx he hv hk' hpar hsl hp =>
    cases htp with
    | same hj hkn hs hN ho hc' hT => exact ⟨_, _, M, hJ, by rw [nosay hs]; exact hsame hw hv hj hkn⟩
    | read hj ho hx hkn he' => obtain ⟨c, x, y, he'⟩ := he'; rw [he] at he'; cases he'
    | take hj h1 h1' => exact absurd (hv.2.2.1.trans h1) h1'
    | say z hj hkn hkn' he' => rw [he] at he'; cases he'
  | clear hw he hv hv' hk' hj hp =>
    obtain ⟨x, he⟩ := he
    cases htp with
    | say z hj' => omega
    | read hj' ho => rw [hv.1] at ho; cases ho
    | take hj' h1 h1' => exact absurd hv'.2.2.1 h1'
    | same hj' hkn hs hN ho hc' hT =>
      subst hw
      refine ⟨_, _, M, hJ, ?_⟩
      rw [nosay hs]
      refine hP.upd ht hj (fun y hy => hP.k1 t ht y (by rw [← hkn]; exact hy)) (fun h1 h2 h3 => hP.k2 t ht h1 (by rw [← hkn]; exact h2) hv.1) (fun h1 => by rw [hv'.1] at h1; cases h1) (fun u hu hut ho' => ?_) (fun u hu _ h1 => ?_) (fun s hs _ h1 => ?_) (by rw [hv'.2.2.1]; omega)
      · rw [hp1 t 0 ht, hpx t 0 ht, updV_ne _ _ hut]
        exact hP.k3 u hu ho'
      · rw [hv'.2.2.1] at h1; omega
      · exfalso
        obtain ⟨p'', hp'', e2, e3, _⟩ := h.tv.c s hs (by show (viewG (ls s) (gs s)).tk ≠ 0; omega)
        have e2 : (viewG (ls s) (gs s)).tk = p'' + 1 := e2
        obtain rfl : p'' = t := by omega
        have e3 : (viewG (ls p'') (gs p'')).off = true := e3
        rw [hv.1] at e3
        cases e3

theorem TpI.step (hW : wordsOk n ls) (h : TpI B n ls m) (t : Int) : TpI B n ls (stepZ m t).2 := by
  obtain ⟨gs, ws, M, h, hP⟩ := h
  rcases step_or h.sys.wf t with e | ⟨s, rfl, hc, hk⟩
  · rw [e]; exact ⟨gs, ws, M, h, hP⟩
  · exact tp_step hW h hP hc hk

theorem TpI.poke (h : TpI B n ls m) (t : Int) : TpI (B + 8) n ls (pokeZ m t) := by
  obtain ⟨gs, ws, M, h, hP⟩ := h
  exact ⟨gs, ws, M, h.poke t, hP⟩

theorem TpI.mono {B' : Nat} (h : TpI B n ls m) (hb : B ≤ B') : TpI B' n ls m := by
  obtain ⟨gs, ws, M, h, hP⟩ := h
  exact ⟨gs, ws, M, h.mono hb, hP⟩

end

theorem tp_init {n : Nat} {ls : Nat → List (Nat × Nat)} : TpJ n ls (fun _ => ⟨0, th0⟩) slots0 [] (fun _ => none) := by
  have e1 : ∀ l : List (Nat × Nat), viewG l ⟨0, th0⟩ = v0t := fun l => vw_0 l 0 _ _
  have e2 : ∀ l : List (Nat × Nat), knG l ⟨0, th0⟩ = none := fun l => kn_0 l 0 _ _
  refine ⟨(fun a b h => by cases h), (fun a b h => by cases h), fun _ _ _ _ _ => rfl, fun t _ y h => ?_, fun _ _ _ _ _ => rfl, fun t _ h => ?_, fun s t _ _ h => ?_, fun t k y _ h => by cases h⟩
  · rw [e2] at h; cases h
  · rw [e1] at h; cases h
  · rw [e1] at h
    have h : (0 : Int) = t + 1 := h
    omega

/-- Who is told whose word, behind anything. -/
theorem tp_moves (l : List (List Int)) (ms : List MoveZ) : wordsOk (min l.length 8) (lsQ (trdsL l)) ∧ TpI (3440 + 8 * ms.length) (min l.length 8) (lsQ (trdsL l)) (movesZ (mz0 ((trdsL l).map fun l => catP (l.map trdB)) slots0) ms) := by
  have hn : (trdsL l).length = min l.length 8 := by rw [trdsL, List.length_mapIdx, List.length_take]; omega
  have hg : ∀ {t : Nat} {x : List (Nat × Nat)}, (trdsL l)[t]? = some x → t < 8 ∧ ∃ j, j ≤ 6 ∧ x = trdL t j := fun {t x} h => by
    rw [trdsL, List.getElem?_mapIdx] at h
    cases hx : (l.take 8)[t]? with
    | none => rw [hx] at h; cases h
    | some y =>
      rw [hx] at h
      have := (List.getElem?_eq_some_iff.1 hx).1
      rw [List.length_take] at this
      exact ⟨by omega, _, by omega, (Option.some.inj h).symm⟩
  have hok : ∀ {t j : Nat}, t < 8 → j ≤ 6 → qOk t (trdL t j) := fun {t j} ht hj q hq => by
    obtain ⟨k, hk, rfl⟩ := List.mem_map.1 hq
    have := List.mem_range.1 hk
    exact ⟨rfl, by show 1 ≤ 10 * t + k + 1; omega, by show 10 * t + k + 1 ≤ 100; omega⟩
  have hW : wordsOk (min l.length 8) (lsQ (trdsL l)) := fun t ht => by
    obtain ⟨h8, j, hj, e⟩ := hg (lsQ_get (ll := trdsL l) (t := t) (by omega))
    rw [e]
    refine ⟨by simp [trdL]; omega, fun k q hq => ?_⟩
    rw [trdL, List.getElem?_map] at hq
    cases hr : (List.range j)[k]? with
    | none => rw [hr] at hq; cases hq
    | some i =>
      rw [hr] at hq
      obtain ⟨h1, h2⟩ := List.getElem?_eq_some_iff.1 hr
      rw [List.getElem_range] at h2
      subst h2
      exact (Option.some.inj hq).symm
  refine ⟨hW, ?_⟩
  have h0 := tr_init (ll := trdsL l) (by omega) (fun x hx => by
      obtain ⟨t, ht⟩ := List.mem_iff_getElem?.1 hx
      obtain ⟨h8, j, hj, rfl⟩ := hg ht
      simp [trdL]; omega) (fun t ht => by
      obtain ⟨h8, j, hj, e⟩ := hg (lsQ_get ht)
      rw [e]
      exact hok h8 hj)
  rw [hn] at h0
  have := moves_inv (P := fun i m => TpI (3440 + 8 * i) (min l.length 8) (lsQ (trdsL l)) m)
    (fun i m t h => (h.step hW t).mono (by omega)) (fun i m t h => (h.poke t).mono (by omega)) ms 0 _ ⟨_, _, _, h0, tp_init⟩
  rw [Nat.zero_add] at this
  exact this

/-- Words told, two by two. -/
structure Told2 (n : Nat) (calls : List (List CallZ)) (el : List EvZ) (M : Int → Option Int) : Prop where
  sym : ∀ a b, M a = some b → M b = some a
  val : ∀ a b, M a = some b → a / 10 ≠ b / 10 ∧ ∃ (t k : Nat) (x : List CallZ), t < n ∧ calls[t]? = some x ∧ k < x.length ∧ k < 6 ∧ a = 10 * (t : Int) + k
  an : ∀ (t k : Nat) (y : Int), t < n → (ansT t el)[k]? = some y → M (10 * (t : Int) + k) = some y
  len : ∀ t, t < n → ∃ x : List CallZ, calls[t]? = some x ∧ (ansT t el).length ≤ x.length ∧ x.length ≤ 6

theorem tp_told {B n : Nat} {l : List (List Int)} (hn : n = min l.length 8) {m : MZ} (hW : wordsOk n (lsQ (trdsL l))) (h : TpI B n (lsQ (trdsL l)) m) : ∃ M, Told2 n (tradesZ l) m.el M := by
  obtain ⟨gs, ws, M, hJ, hP⟩ := h
  have at1 : ∀ t, t < n → ∃ y : List Int, (tradesZ l)[t]? = some (tradJ t (min y.length 6)) ∧ lsQ (trdsL l) t = trdL t (min y.length 6) := fun t ht => by
    obtain ⟨y, hlt⟩ : ∃ y, (l.take 8)[t]? = some y := ⟨_, List.getElem?_eq_getElem (by rw [List.length_take]; omega)⟩
    exact ⟨y, by rw [tradesZ, List.getElem?_mapIdx, hlt]; rfl, by rw [lsQ, List.getD_eq_getElem?_getD, trdsL, List.getElem?_mapIdx, hlt]; rfl⟩
  refine ⟨M, hP.sym, fun a b hM => ?_, hP.an, fun t ht => ?_⟩
  · obtain ⟨h1, t, k, ht, hk, e⟩ := hP.val a b hM
    have h6 := (hW t ht).1
    obtain ⟨y, e1, e2⟩ := at1 t ht
    rw [e2] at hk h6
    refine ⟨h1, t, k, _, ht, e1, ?_, by omega, e⟩
    rw [tradJ_len]
    simpa [trdL] using hk
  · obtain ⟨y, e1, e2⟩ := at1 t ht
    refine ⟨_, e1, ?_, by rw [tradJ_len]; omega⟩
    rw [tradJ_len, hJ.told t ht]
    have hle : (gs t).j ≤ (lsQ (trdsL l) t).length := by
      obtain ⟨_, _, _, _, _, _, _, h1 | ⟨_, ⟨q, h1, _⟩ | h1⟩⟩ := hJ.th t ht
      · omega
      · exact Nat.le_of_lt (List.getElem?_eq_some_iff.1 h1).1
      · omega
    rw [e2] at hle
    simpa [trdL] using hle

theorem TpI.fin {B n : Nat} {ls : Nat → List (Nat × Nat)} {z : MZ} (hW : wordsOk n ls) (h : TpI B n ls z) : TpI B n ls (finish z) := by
  have hw : WF z := by obtain ⟨_, _, _, h, _⟩ := h; exact h.sys.wf
  exact (finish_inv (P := TpI B n ls) (fun m t h _ _ => h.step hW t) h hw).1

end Go.Mac
