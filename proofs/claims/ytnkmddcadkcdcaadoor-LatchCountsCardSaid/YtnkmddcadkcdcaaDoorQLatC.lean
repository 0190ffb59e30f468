/- Threads at a latch: whose count is which. -/
import Derived.Test.YtnkmddcadkcdcaaDoorQLatU
open Go Go.Proofs Go.Mac
set_option maxRecDepth 100000
namespace Go.Mac

/-- A number that is one's own: nobody else has it. -/
def lgood (own : Int → Nat × Nat) (v first : Int) (t k : Nat) (u : Int) : Prop := u = 0 ∨ (0 < u ∧ v ≤ u ∧ u < first ∧ own u = (t, k))

def hOk (own : Int → Nat × Nat) (v first : Int) (t j : Nat) (b : Bool) (o : Nat) (r1 r2 r3 : Int) : Prop :=
  match b with
  | true => (o = 4 → r3 = 1 → lgood own v first t j r2) ∧ (o = 5 → lgood own v first t j r2) ∧ (6 ≤ o → lgood own v first t j r1)
  | false => o = 4 → r1 = 0

theorem lgood_mono {own own' : Int → Nat × Nat} {v v' first : Int} (hv : v' ≤ v) (ho : ∀ u, v ≤ u → own' u = own u) {t k : Nat} {u : Int} (h : lgood own v first t k u) : lgood own' v' first t k u := by
  rcases h with h | ⟨h1, h2, h3, h4⟩
  · exact .inl h
  · exact .inr ⟨h1, by omega, h3, by rw [ho u h2]; exact h4⟩

theorem hOk_mono {own own' : Int → Nat × Nat} {v v' first : Int} (hv : v' ≤ v) (ho : ∀ u, v ≤ u → own' u = own u) {t j : Nat} {b : Bool} {o : Nat} {r1 r2 r3 : Int} (h : hOk own v first t j b o r1 r2 r3) : hOk own' v' first t j b o r1 r2 r3 := by
  cases b with
  | true => exact ⟨fun e1 e2 => lgood_mono hv ho (h.1 e1 e2), fun e => lgood_mono hv ho (h.2.1 e), fun e => lgood_mono hv ho (h.2.2 e)⟩
  | false => exact h

def HG (own : Int → Nat × Nat) (v first : Int) (t : Nat) (l : List Bool) (g : GZ) : Prop := ∀ b, l[g.j]? = some b → hOk own v first t g.j b g.y.pc (rgZ g.y.rg 1) (rgZ g.y.rg 2) (rgZ g.y.rg 3)

theorem hOk_0 (own : Int → Nat × Nat) (v first : Int) (t j : Nat) (b : Bool) (r1 r2 r3 : Int) : hOk own v first t j b 0 r1 r2 r3 := by
  cases b <;> simp [hOk]

/-- One's step, and whose is what. -/
theorem lat_c {l : List Bool} {g : GZ} {own : Int → Nat × Nat} {v first : Int} {t : Nat} (hvf : v ≤ first) (hv0 : 0 ≤ v ∧ v ≤ 100) (hf : first ≤ 100) (hG : LatG v l g) (hd : g.y.dn = false) (hH : HG own v first t l g) {i : InsZ} (hi : insG (l.map latB) g = some i) {y' : ThZ} {v' : Int} {e : Eff} (hn : nextZ i g.y v = (y', v', e)) :
    v' ≤ v ∧ ∃ own', (∀ u, v ≤ u → own' u = own u) ∧ HG own' v' first t l (normG (l.map latB) ⟨g.j, y'⟩) ∧ ∀ a x, e = .say a x → a = 3 ∧ ∃ b, l[g.j]? = some b ∧ (b = false → x = 0) ∧ lgood own' v' first t g.j x := by
  obtain ⟨r1, r2, r3, hrg, _, hcase⟩ := hG
  obtain ⟨j, o, rg, dn⟩ := g
  dsimp only at hd hrg hcase hn
  subst hd hrg
  rcases hcase with ⟨h1, _⟩ | ⟨_, ⟨b, hb, hok⟩ | ⟨rfl, rfl⟩⟩
  · cases h1
  · have hH := hH b hb
    rw [lat_at hb] at hi
    have stay : ∀ {y' : ThZ} {e : Eff}, y'.pc < (latB b).length → hOk own v first t j b y'.pc (rgZ y'.rg 1) (rgZ y'.rg 2) (rgZ y'.rg 3) → (∀ a x, e ≠ .say a x) →
        v ≤ v ∧ ∃ own', (∀ u, v ≤ u → own' u = own u) ∧ HG own' v first t l (normG (l.map latB) ⟨j, y'⟩) ∧ ∀ a x, e = .say a x → a = 3 ∧ ∃ b, l[j]? = some b ∧ (b = false → x = 0) ∧ lgood own' v first t j x := fun {y' e} hy h hs =>
      ⟨Int.le_refl _, own, fun _ _ => rfl, by rw [lat_in hb hy]; intro c hc; obtain rfl := Option.some.inj (hb.symm.trans hc); exact h, fun a x he => absurd he (hs a x)⟩
    cases b with
    | false =>
      obtain ⟨ho5, ok1, ok2, ok4⟩ := hok
      rcases (show o = 0 ∨ o = 1 ∨ o = 2 ∨ o = 3 ∨ o = 4 by omega) with rfl | rfl | rfl | rfl | rfl <;> cases hi
      · cases hn
        exact stay (by show 1 < 5; decide) (by simp [hOk]) (fun _ _ h => by cases h)
      · have hn : ((if r1 = u64m 0 then _ else _ : ThZ), v, Eff.no) = _ := hn
        by_cases h1 : r1 = 0
        · rw [if_pos (show r1 = u64m 0 from h1)] at hn
          cases hn
          exact stay (by show 4 < 5; decide) (by simp [hOk, rgZ, h1]) (fun _ _ h => by cases h)
        · rw [if_neg (show ¬ r1 = u64m 0 from h1)] at hn
          cases hn
          exact stay (by show 2 < 5; decide) (by simp [hOk]) (fun _ _ h => by cases h)
      · have hn : ((⟨3, [0, r1, r2, r3, 0, 0, 0, 0], false⟩ : ThZ), v, (if v = r1 then Eff.sleep else Eff.no)) = _ := hn
        cases hn
        exact stay (by show 3 < 5; decide) (by simp [hOk]) (fun _ _ h => by split at h <;> cases h)
      · cases hn
        exact stay (by show 0 < 5; decide) (by simp [hOk]) (fun _ _ h => by cases h)
      · have h1 : r1 = 0 := hH rfl
        cases hn
        refine ⟨Int.le_refl _, own, fun _ _ => rfl, ?_, fun a x he => ?_⟩
        · rw [lat_out hb rfl]
          exact fun c _ => hOk_0 ..
        · cases he
          refine ⟨rfl, false, hb, fun _ => ?_, .inl ?_⟩ <;> (show IntKind.i64.wrap r1 = 0; rw [h1]; rfl)
    | true =>
      obtain ⟨ho10, ok1, ok2, ok3, ok4⟩ := hok
      obtain ⟨k4, k5, k6⟩ := hH
      rcases (show o = 0 ∨ o = 1 ∨ o = 2 ∨ o = 3 ∨ o = 4 ∨ o = 5 ∨ o = 6 ∨ o = 7 ∨ o = 8 ∨ o = 9 by omega) with rfl | rfl | rfl | rfl | rfl | rfl | rfl | rfl | rfl | rfl <;> cases hi
      · cases hn
        exact stay (by show 1 < 10; decide) (by simp [hOk]) (fun _ _ h => by cases h)
      · have hn : ((if r1 = u64m 0 then _ else _ : ThZ), v, Eff.no) = _ := hn
        by_cases h1 : r1 = 0
        · rw [if_pos (show r1 = u64m 0 from h1)] at hn
          cases hn
          exact stay (by show 9 < 10; decide) (by simp [hOk, rgZ, h1, lgood]) (fun _ _ h => by cases h)
        · rw [if_neg (show ¬ r1 = u64m 0 from h1)] at hn
          cases hn
          exact stay (by show 2 < 10; decide) (by simp [hOk]) (fun _ _ h => by cases h)
      · cases hn
        exact stay (by show 3 < 10; decide) (by simp [hOk]) (fun _ _ h => by cases h)
      · obtain ⟨ok3, rfl⟩ := ok3 rfl
        have hn : (if v = r1 then ((⟨4, [0, r1, r1 - 1, 1, 0, 0, 0, 0], false⟩ : ThZ), r1 - 1, Eff.act 9 v (r1 - 1)) else (⟨4, [0, r1, r1 - 1, 0, 0, 0, 0, 0], false⟩, v, .act 9 v v)) = _ := hn
        by_cases h1 : v = r1
        · rw [if_pos h1] at hn
          cases hn
          refine ⟨by omega, fun u => if u = r1 - 1 then (t, j) else own u, fun u hu => if_neg (by omega), ?_, fun a x he => by cases he⟩
          rw [lat_in hb (show 4 < 10 by decide)]
          intro c hc
          obtain rfl := Option.some.inj (hb.symm.trans hc)
          refine ⟨fun _ _ => ?_, (fun h => by cases h), fun h => absurd (show 6 ≤ 4 from h) (by decide)⟩
          show lgood _ (r1 - 1) first t j (r1 - 1)
          by_cases h2 : r1 - 1 = 0
          · exact .inl h2
          · exact .inr ⟨by omega, by omega, by omega, if_pos rfl⟩
        · rw [if_neg h1] at hn
          cases hn
          exact stay (by show 4 < 10; decide) (by simp [hOk, rgZ]) (fun _ _ h => by cases h)
      · have hn : ((if r3 = u64m 0 then _ else _ : ThZ), v, Eff.no) = _ := hn
        by_cases h1 : r3 = 0
        · rw [if_pos (show r3 = u64m 0 from h1)] at hn
          cases hn
          exact stay (by show 0 < 10; decide) (by simp [hOk]) (fun _ _ h => by cases h)
        · rw [if_neg (show ¬ r3 = u64m 0 from h1)] at hn
          cases hn
          have h3 := k4 rfl ((ok4 rfl).resolve_left h1)
          exact stay (by show 5 < 10; decide) ⟨(fun h => by cases h), fun _ => h3, fun h => absurd (show 6 ≤ 5 from h) (by decide)⟩ (fun _ _ h => by cases h)
      · have h3 := k5 rfl
        cases hn
        exact stay (by show 6 < 10; decide) ⟨(fun h => by cases h), (fun h => by cases h), fun _ => h3⟩ (fun _ _ h => by cases h)
      · have h3 := k6 (of_decide_eq_true rfl)
        have hn : ((if r2 = u64m 0 then _ else _ : ThZ), v, Eff.no) = _ := hn
        by_cases h1 : r2 = 0
        · rw [if_pos (show r2 = u64m 0 from h1)] at hn
          cases hn
          exact stay (by show 8 < 10; decide) ⟨(fun h => by cases h), (fun h => by cases h), fun _ => h3⟩ (fun _ _ h => by cases h)
        · rw [if_neg (show ¬ r2 = u64m 0 from h1)] at hn
          cases hn
          exact stay (by show 7 < 10; decide) ⟨(fun h => by cases h), (fun h => by cases h), fun _ => h3⟩ (fun _ _ h => by cases h)
      · have h3 := k6 (of_decide_eq_true rfl)
        cases hn
        exact stay (by show 9 < 10; decide) ⟨(fun h => by cases h), (fun h => by cases h), fun _ => h3⟩ (fun _ _ h => by cases h)
      · have h3 := k6 (of_decide_eq_true rfl)
        cases hn
        exact stay (by show 9 < 10; decide) ⟨(fun h => by cases h), (fun h => by cases h), fun _ => h3⟩ (fun _ _ h => by cases h)
      · have h3 : lgood own v first t j r1 := k6 (of_decide_eq_true rfl)
        cases hn
        refine ⟨Int.le_refl _, own, fun _ _ => rfl, ?_, fun a x he => ?_⟩
        · rw [lat_out hb rfl]
          exact fun c _ => hOk_0 ..
        · cases he
          have e : IntKind.i64.wrap (rgZ [0, r1, r2, r3, 0, 0, 0, 0] 1) = r1 := by
            show IntKind.i64.wrap r1 = r1
            rcases h3 with h3 | ⟨h3, h4, h5, _⟩
            · rw [h3]; rfl
            · exact wrap_i64 _ (by omega) (by omega)
          rw [e]
          exact ⟨rfl, true, hb, (fun h => by cases h), h3⟩
  · have hb : l[l.length]? = none := by simp
    rw [insG] at hi
    simp at hi
    cases hi
    cases hn
    refine ⟨Int.le_refl _, own, fun _ _ => rfl, fun c hc => ?_, fun a x he => by cases he⟩
    rw [normG] at hc ⊢
    simp at hc

structure LatC (n : Nat) (first : Int) (ls : Nat → List Bool) (gs : Nat → GZ) (v : Int) (el : List EvZ) (own : Int → Nat × Nat) : Prop where
  vf : v ≤ first ∧ first ≤ 100
  hd : ∀ t, t < n → HG own v first t (ls t) (gs t)
  sa : ∀ t, t < n → ∀ k u, (ansT t el)[k]? = some u → ∃ b, (ls t)[k]? = some b ∧ (b = false → u = 0) ∧ lgood own v first t k u

section
variable {B D n : Nat} {first : Int} {ls : Nat → List Bool} {gs : Nat → GZ} {v : Int} {m : MZ}

def LatW (B D n : Nat) (first : Int) (ls : Nat → List Bool) (m : MZ) : Prop := ∃ gs v own, LatJ B D n first ls gs v m ∧ ToldW n gs m.el ∧ LatC n first ls gs v m.el own

theorem LatW.step (h : LatW B D n first ls m) (t : Int) : LatW B D n first ls (stepZ m t).2 := by
  obtain ⟨gs, v, own, h, hT, hC⟩ := h
  rcases step_or h.sys.wf t with e | ⟨s, rfl, hc, hk⟩
  · rw [e]; exact ⟨gs, v, own, h, hT, hC⟩
  · obtain ⟨hs, hd, _⟩ := h.sys.can hc
    obtain ⟨v', i, y', e, hi, ho, hn, hJ⟩ := lat_step h hc hk
    have hT' := hT.step h.sys.w (fun b hb => by obtain ⟨c, _, rfl⟩ := List.mem_map.1 hb; exact latB_say c) hc hk hi (oneC_cells ho) (nextW_one ho hn)
    obtain ⟨_, _, _, hel, _⟩ := h.sys.w.go hc hk hi (oneC_cells ho) (nextW_one ho hn)
    obtain ⟨hle, own', h1, h2, h3⟩ := lat_c hC.vf.1 h.v0 hC.vf.2 (h.th s hs) hd (hC.hd s hs) hi hn
    refine ⟨_, _, own', hJ, hT', ⟨by have := hC.vf; omega, hC.vf.2⟩, fun t ht => ?_, fun t ht k u hu => ?_⟩
    · by_cases hts : t = s
      · subst hts; rw [updG_same]; exact h2
      · rw [updG_ne _ _ hts]
        exact fun b hb => hOk_mono hle h1 (hC.hd t ht b hb)
    · have old : (ansT t m.el)[k]? = some u → ∃ b, (ls t)[k]? = some b ∧ (b = false → u = 0) ∧ lgood own' v' first t k u := fun hu => by
        obtain ⟨b, h4, h5, h6⟩ := hC.sa t ht k u hu
        exact ⟨b, h4, h5, lgood_mono hle h1 h6⟩
      rw [hel] at hu
      cases e with
      | say a x =>
        obtain ⟨rfl, b, h4, h5, h6⟩ := h3 a x rfl
        have hu : (ansT t (m.el ++ [⟨((m.k + 1 : Nat) : Int), 3, (s : Int), x⟩]))[k]? = some u := hu
        rw [ansT_snoc] at hu
        by_cases hts : t = s
        · subst hts
          rw [if_pos ⟨rfl, rfl⟩] at hu
          rcases Nat.lt_or_ge k (ansT t m.el).length with hk' | hk'
          · rw [List.getElem?_append_left hk'] at hu
            exact old hu
          · rw [List.getElem?_append_right hk'] at hu
            have hl := hT t ht
            cases hq : k - (ansT t m.el).length with
            | zero =>
              rw [hq] at hu
              obtain rfl : x = u := by simpa using hu
              obtain rfl : k = (gs t).j := by omega
              exact ⟨b, h4, h5, h6⟩
            | succ q => rw [hq] at hu; simp at hu
        · rw [if_neg fun h => hts (by have := h.2; dsimp only at this; omega)] at hu
          exact old hu
      | no => exact old hu
      | act o x y => exact old hu
      | sleep => exact old hu
      | wake n => exact old hu

theorem LatW.poke (h : LatW B D n first ls m) (t : Int) : LatW (B + 4) D n first ls (pokeZ m t) := by
  obtain ⟨gs, v, own, h, hT, hC⟩ := h
  exact ⟨gs, v, own, h.poke t, hT, hC⟩

theorem LatW.mono {B' : Nat} (h : LatW B D n first ls m) (hb : B ≤ B') : LatW B' D n first ls m := by
  obtain ⟨gs, v, own, h, hT, hC⟩ := h
  exact ⟨gs, v, own, h.mono hb, hT, hC⟩

end

theorem latW_moves {ll : List (List Bool)} (hn : ll.length ≤ 9) (hl : ∀ l ∈ ll, l.length ≤ 12) {f : Nat} (hf : f ≤ 100) (ms : List MoveZ) :
    LatW (9225 + 4 * ms.length) (rsum ll.length fun t => cnt true (lsF ll t) 0) ll.length f (lsF ll) (movesZ (latM ll f) ms) := by
  have := moves_inv (P := fun i m => LatW (9225 + 4 * i) (rsum ll.length fun t => cnt true (lsF ll t) 0) ll.length f (lsF ll) m)
    (fun i m t h => (h.step t).mono (by omega)) (fun i m t h => (h.poke t).mono (by omega)) ms 0 _ ⟨_, _, fun _ => (0, 0), lat_init hn hl hf, fun s _ => rfl, ⟨Int.le_refl _, by omega⟩, fun t _ b _ => hOk_0 .., fun t _ k u h => by cases h⟩
  rw [Nat.zero_add] at this
  exact this

/-- Counts of the first calls. -/
def cntT (l : List Bool) (k : Nat) : Nat := (l.take k).count true

theorem cntT_succ {l : List Bool} {k : Nat} {b : Bool} (h : l[k]? = some b) : cntT l (k + 1) = cntT l k + if b = true then 1 else 0 := by
  rw [cntT, List.take_add_one, h, List.count_append, cntT]
  cases b <;> rfl

theorem cntT_cnt (l : List Bool) (k : Nat) : cntT l k + cnt true l k = cnt true l 0 := by
  rw [cntT, cnt, cnt, ← List.count_append, List.take_append_drop, List.drop_zero]

theorem cntT_le (l : List Bool) (k : Nat) : cntT l k ≤ k := by
  rw [cntT]
  have := List.count_le_length (a := true) (l := l.take k)
  rw [List.length_take] at this
  omega

/-- What LatchCounts asks. -/
theorem latW_fin {B n : Nat} {f : Nat} {ls : Nat → List Bool} {z : MZ} (h : LatW B (rsum n fun t => cnt true (ls t) 0) n f ls z) (hb : B < 20000) :
    ∃ own : Int → Nat × Nat, (∀ t, t < n → ∀ k u, (ansT t (finish z).el)[k]? = some u → ∃ b, (ls t)[k]? = some b ∧ (b = false → u = 0) ∧ lgood own 0 f t k u) ∧
      (finish z).ws = [((f - rsum n (fun t => cntT (ls t) (ansT t (finish z).el).length) : Nat) : Int)] := by
  have hw : WF z := by obtain ⟨_, _, _, h, _⟩ := h; exact h.sys.wf
  obtain ⟨h1, hno⟩ := fin_stop (P := LatW B _ n f ls) (fun m t h => h.step t) (fun m h => by obtain ⟨_, _, _, h, _⟩ := h; have := h.pot; omega) h hw
  obtain ⟨gs, v, own, hJ, hT, hC⟩ := h1
  generalize finish z = y at hJ hno hT hC ⊢
  obtain ⟨hv0, hv1⟩ := hJ.v0
  refine ⟨own, fun t ht k u hu => ?_, ?_⟩
  · obtain ⟨b, h1, h2, h3⟩ := hC.sa t ht k u hu
    exact ⟨b, h1, h2, lgood_mono hv0 (fun _ _ => rfl) h3⟩
  · have rest : ∀ t, t < n → dnG (ls t) (gs t) = cnt true (ls t) (gs t).j := fun t ht => by
      rcases lat_stop hJ hno ht with hd | hs
      · have hj := lat_done hJ ht hd
        have hb : (ls t)[(gs t).j]? = none := List.getElem?_eq_none_iff.2 (by omega)
        rw [dnG, hb, cnt_end (by omega), cnt_end (by omega)]
        rfl
      · obtain ⟨hb, _⟩ := lat_slp hJ hs
        rw [dnG, hb, cnt_at hb]
        rfl
    have e1 : ∀ t, t < n → cnt true (ls t) 0 = cntT (ls t) (ansT t y.el).length + dnG (ls t) (gs t) := fun t ht => by
      rw [rest t ht, hT t ht, cntT_cnt]
    have e2 : rsum n (fun t => cnt true (ls t) 0) = rsum n (fun t => cntT (ls t) (ansT t y.el).length) + rsum n (fun t => dnG (ls t) (gs t)) := by
      have h1 : ∀ n, (∀ t, t < n → cnt true (ls t) 0 = cntT (ls t) (ansT t y.el).length + dnG (ls t) (gs t)) → rsum n (fun t => cnt true (ls t) 0) = rsum n (fun t => cntT (ls t) (ansT t y.el).length) + rsum n (fun t => dnG (ls t) (gs t)) := fun n => by
        induction n with
        | zero => intro _; rfl
        | succ n ih =>
          intro hh
          rw [rsum_succ, rsum_succ, rsum_succ, ih fun t ht => hh t (by omega), hh n (by omega)]
          omega
      exact h1 n e1
    have hlo := hJ.lo
    have hhi := hJ.hi
    rw [e2] at hlo hhi
    rw [hJ.sys.ws]
    congr 1
    by_cases hz : v = 0
    · omega
    · have := hhi hz
      omega

end Go.Mac
