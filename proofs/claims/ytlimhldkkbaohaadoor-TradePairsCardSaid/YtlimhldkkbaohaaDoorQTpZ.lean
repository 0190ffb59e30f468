/- Threads that trade: whose word each holds. -/
import Derived.Test.YtlimhldkkbaohaaDoorQTrL
open Go Go.Proofs Go.Mac
set_option maxRecDepth 100000
namespace Go.Mac

/-- The other one's word, where a thread holds it. -/
def kn (o : Nat) (r1 r2 r3 : Int) : Option Int :=
  if (o = 6 ∧ r3 = 1) ∨ (7 ≤ o ∧ o ≤ 10) then some (r1 / 65536 - 1)
  else if o = 11 ∨ (o = 15 ∧ r2 ≠ 0) ∨ o = 16 ∨ (19 ≤ o ∧ o ≤ 21) then some (r2 - 1)
  else if o = 22 then some r2 else none

def knG (l : List (Nat × Nat)) (g : GZ) : Option Int :=
  match l[g.j]? with
  | none => none
  | some _ => kn g.y.pc (rgZ g.y.rg 1) (rgZ g.y.rg 2) (rgZ g.y.rg 3)

theorem kn_at {l : List (Nat × Nat)} {j : Nat} {q : Nat × Nat} (h : l[j]? = some q) (o : Nat) (rg : List Int) (d : Bool) : knG l ⟨j, ⟨o, rg, d⟩⟩ = kn o (rgZ rg 1) (rgZ rg 2) (rgZ rg 3) := by rw [knG, h]
theorem kn_0 (l : List (Nat × Nat)) (j : Nat) (rg : List Int) (d : Bool) : knG l ⟨j, ⟨0, rg, d⟩⟩ = none := by
  cases h : l[j]? with
  | none => rw [knG, h]
  | some q => rw [kn_at h]; simp [kn]

theorem LS.det {nc : Nat} {bl : List (List InsZ)} {g g1 g2 : GZ} {ws ws1 ws2 : List Int} {e1 e2 : EffW} (h1 : LS nc bl g ws g1 ws1 e1) (h2 : LS nc bl g ws g2 ws2 e2) : g1 = g2 ∧ ws1 = ws2 ∧ e1 = e2 := by
  obtain ⟨i, y, a1, _, a3, a4⟩ := h1
  obtain ⟨i2, y2, b1, _, b3, b4⟩ := h2
  rw [a1] at b1
  obtain rfl := Option.some.inj b1
  rw [a3] at b3
  cases b3
  exact ⟨a4.symm.trans b4, rfl, rfl⟩

inductive TpOut (t : Nat) (l : List (Nat × Nat)) (g : GZ) (ws : List Int) (g' : GZ) (e : EffW) : Prop
  | same (hj : g'.j = g.j) (hk : knG l g' = knG l g) (hs : ∀ a y, e ≠ .say a y) (hN : ∀ c x N, e = .act 7 c x N → (viewG l g).tk ≠ 0 → ∃ q, l[g.j]? = some q ∧ N = (q.2 : Int)) (ho : (viewG l g).off = false → (viewG l g').off = true → knG l g = none ∧ g.j < l.length) (hc : (viewG l g).off = true → (viewG l g').off = false → knG l g ≠ none) (hT : (viewG l g').tk ≠ 0 → (viewG l g).tk ≠ 0)
  | say (z : Int) (hj : g'.j = g.j + 1) (hk : knG l g = some z) (hk' : knG l g' = none) (he : e = .say 3 (IntKind.i64.wrap z)) (hv : viewG l g' = v0t)
  | read (hj : g'.j = g.j) (ho : (viewG l g).off = true) (hx : xF ws t ≠ 0) (hk : knG l g' = some (xF ws t - 1)) (he : ∃ c x y, e = .act 6 c x y)
  | take (hj : g'.j = g.j) (ht : (viewG l g).tk = 0) (ht' : (viewG l g').tk ≠ 0) (hk : knG l g = none) (hk' : knG l g' = some (rgZ ws 0 / 65536 - 1)) (hl : g.j < l.length) (he : ∃ c x y, e = .act 9 c x y)

theorem tp_bits0 : ∀ p : Fin 9, ∀ N : Fin 101, bitsZ ((p.val : Int) + (N.val : Int) * 65536) 16 16 = (N.val : Int) := by decide +kernel

theorem wd_div {n : Nat} (hn : n ≤ 8) {r : Int} (h : wd n r) : bitsZ r 16 16 = r / 65536 := by
  obtain ⟨p, N, h1, h2, h3, h4, rfl⟩ := h
  have := tp_bits0 ⟨p, by omega⟩ ⟨N, by omega⟩
  dsimp only at this
  rw [this]
  omega

set_option maxHeartbeats 4000000 in
theorem tp_local {n t : Nat} {l : List (Nat × Nat)} {g : GZ} {ws : List Int} (hn : n ≤ 8) (ht : t < n) (hq : ∀ q ∈ l, q.1 = t + 1 ∧ 1 ≤ q.2 ∧ q.2 ≤ 100) (h0 : rgZ ws 0 = 0 ∨ wd n (rgZ ws 0)) (h : TrG n l g) (hd : g.y.dn = false) (hk : ∀ y, knG l g = some y → 0 ≤ y ∧ y < 1000) :
    ∃ g' ws' e, LS 17 (l.map trdB) g ws g' ws' e ∧ TpOut t l g ws g' e := by
  obtain ⟨r1, r2, r3, r4, r5, r6, hrg, hcase⟩ := h
  obtain ⟨j, o, rg, dn⟩ := g
  dsimp only at hd hrg hcase
  subst hd hrg
  rcases hcase with ⟨h1, _⟩ | ⟨_, ⟨q, hb, hok⟩ | ⟨rfl, rfl⟩⟩
  · cases h1
  · obtain ⟨hq1, hq2, hq3⟩ := hq q (List.mem_of_getElem? hb)
    have hqc : (q.1 : Int) = ((t + 1 : Nat) : Int) := by omega
    have hjl := (List.getElem?_eq_some_iff.1 hb).1
    rw [kn_at hb] at hk
    have inn {o' : Nat} {r1' r2' r3' r4' r5' r6' : Int} {ws' : List Int} {e : EffW} {i : InsZ} (hi : (trdB q)[o]? = some i) (hc : cellsC 17 ⟨o, [0, r1, r2, r3, r4, r5, r6, 0], false⟩ i)
        (hnx : nextW i ⟨o, [0, r1, r2, r3, r4, r5, r6, 0], false⟩ ws = (⟨o', [0, r1', r2', r3', r4', r5', r6', 0], false⟩, ws', e)) (h' : o' < 23)
        (hout : TpOut t l ⟨j, ⟨o, [0, r1, r2, r3, r4, r5, r6, 0], false⟩⟩ ws ⟨j, ⟨o', [0, r1', r2', r3', r4', r5', r6', 0], false⟩⟩ e) :
        ∃ g' ws' e, LS 17 (l.map trdB) ⟨j, ⟨o, [0, r1, r2, r3, r4, r5, r6, 0], false⟩⟩ ws g' ws' e ∧ TpOut t l ⟨j, ⟨o, [0, r1, r2, r3, r4, r5, r6, 0], false⟩⟩ ws g' e :=
      ⟨_, _, _, LS.inn hb hi hc hnx h', hout⟩
    have sm {o' : Nat} {r1' r2' r3' r4' r5' r6' : Int} {e : EffW} (hkn : kn o' r1' r2' r3' = kn o r1 r2 r3) (hs : ∀ a y, e ≠ .say a y) (hN : ∀ c x N, e = .act 7 c x N → (trView o r1 r3 r5 r6).tk ≠ 0 → N = (q.2 : Int))
        (ho : offN o r3 = false → offN o' r3' = true → kn o r1 r2 r3 = none) (hc : offN o r3 = true → offN o' r3' = false → kn o r1 r2 r3 ≠ none) (hT : (trView o' r1' r3' r5' r6').tk ≠ 0 → (trView o r1 r3 r5 r6).tk ≠ 0 := by simp [trView]) :
        TpOut t l ⟨j, ⟨o, [0, r1, r2, r3, r4, r5, r6, 0], false⟩⟩ ws ⟨j, ⟨o', [0, r1', r2', r3', r4', r5', r6', 0], false⟩⟩ e := by
      refine .same rfl ?_ hs ?_ ?_ ?_ ?_
      · rw [kn_at hb, kn_at hb]; exact hkn
      · rw [vw_at hb]; exact fun c x N he hne => ⟨q, hb, hN c x N he hne⟩
      · rw [vw_at hb, vw_at hb, kn_at hb]; exact fun h1 h2 => ⟨ho h1 h2, hjl⟩
      · rw [vw_at hb, vw_at hb, kn_at hb]; exact hc
      · rw [vw_at hb, vw_at hb]; exact hT
    have ho := hok.1
    rcases (show o = 0 ∨ o = 1 ∨ o = 2 ∨ o = 3 ∨ o = 4 ∨ o = 5 ∨ o = 6 ∨ o = 7 ∨ o = 8 ∨ o = 9 ∨ o = 10 ∨ o = 11 ∨ o = 12 ∨ o = 13 ∨ o = 14 ∨ o = 15 ∨ o = 16 ∨ o = 17 ∨ o = 18 ∨ o = 19 ∨ o = 20 ∨ o = 21 ∨ o = 22 by omega) with rfl | rfl | rfl | rfl | rfl | rfl | rfl | rfl | rfl | rfl | rfl | rfl | rfl | rfl | rfl | rfl | rfl | rfl | rfl | rfl | rfl | rfl | rfl <;> simp [trOk] at hok
    · refine inn (o' := 1) (r4' := u64m (q.2 : Int)) rfl (cellK_ok (by simp [cellK])) rfl (by decide) (sm rfl (by simp) (by simp) (by simp [offN]) (by simp [offN]))
    · refine inn (o' := 2) (r5' := u64m ((q.1 : Int) + (q.2 : Int) * 65536)) rfl (cellK_ok (by simp [cellK])) rfl (by decide) (sm rfl (by simp) (by simp) (by simp [offN]) (by simp [offN]))
    · refine inn (o' := 3) (r1' := rgZ ws 0) rfl (cellK_ok (by simp [cellK])) rfl (by decide) (sm rfl (by simp) (by simp) (by simp [offN]) (by simp [offN]))
    · by_cases h1 : r1 = 0
      · refine inn (o' := 12) rfl (cellK_ok (by simp [cellK])) (nx_same h1) (by decide) (sm rfl (by simp) (by simp) (by simp [offN]) (by simp [offN]))
      · refine inn (o' := 4) rfl (cellK_ok (by simp [cellK])) (nx_same' h1) (by decide) (sm rfl (by simp) (by simp) (by simp [offN]) (by simp [offN]))
    · refine inn (o' := 5) (r2' := 0) rfl (cellK_ok (by simp [cellK])) rfl (by decide) (sm rfl (by simp) (by simp) (by simp [offN]) (by simp [offN]))
    · obtain ⟨k1, k2, k3, rfl⟩ := hok
      obtain ⟨m1, m2, m3, m4⟩ := wd_mod hn k3
      by_cases h1 : rgZ ws 0 = r1
      · subst h1
        refine inn (o' := 6) (r3' := 1) (ws' := rgS ws 0 0) rfl (cellK_ok (by simp [cellK])) (nx_swap rfl) (by decide) (.take rfl ?_ ?_ ?_ ?_ hjl ⟨_, _, _, rfl⟩)
        · rw [vw_at hb]; simp [trView]
        · rw [vw_at hb]
          show (trView 6 (rgZ ws 0) 1 r5 r6).tk ≠ 0
          simp [trView]; omega
        · rw [kn_at hb]; simp [kn]
        · rw [kn_at hb]
          show kn 6 (rgZ ws 0) 0 1 = _
          simp [kn]
      · refine inn (o' := 6) (r3' := 0) rfl (cellK_ok (by simp [cellK])) (nx_swap' h1) (by decide) (sm (by simp [kn]) (by simp) (by simp) (by simp [offN]) (by simp [offN]))
    · obtain ⟨k1, k2, k3, k4⟩ := hok
      rcases k4 with rfl | rfl
      · refine inn (o' := 2) rfl (cellK_ok (by simp [cellK])) (nx_same rfl) (by decide) (sm (by simp [kn]) (by simp) (by simp) (by simp [offN]) (by simp [offN]))
      · refine inn (o' := 7) rfl (cellK_ok (by simp [cellK])) (nx_same' (fun e => absurd (show (1 : Int) = 0 from e) (by decide))) (by decide) (sm (by simp [kn]) (by simp) (by simp) (by simp [offN]) (by simp [offN]))
    · refine inn (o' := 8) (r6' := bitsZ r1 0 16) rfl (cellK_ok (by simp [cellK])) rfl (by decide) (sm (by simp [kn]) (by simp) (by simp) (by simp [offN]) (by simp [offN]))
    · obtain ⟨k1, k2, k3, k4⟩ := hok
      obtain ⟨m1, m2, m3, m4⟩ := wd_mod hn k3
      obtain ⟨p, hp⟩ := Int.eq_ofNat_of_zero_le (show 0 ≤ r6 by omega)
      subst hp
      have hoff : offZ ⟨8, [0, r1, r2, r3, r4, r5, (p : Int), 0], false⟩ ⟨7, 0, 4, 6, 0⟩ = some (p : Int) := by
        rw [offZ, if_neg (by decide)]
        show (if (300 : Int) ≤ (p : Int) then none else some (0 + (p : Int))) = _
        rw [if_neg (by omega), Int.zero_add]
      refine inn (o' := 9) (r1' := r1) (r2' := r2) (r3' := r3) (r4' := r4) (r5' := r5) (r6' := (p : Int)) (ws' := rgS ws (p : Int) r4) (e := .act 7 p (rgZ ws (p : Int)) r4) rfl (.inr (.inr (.inr (.inr (.inr (.inr (.inr (.inr (.inr (.inr (.inr ⟨.inl rfl, p, hoff, by omega⟩))))))))))) ?_ (by decide) (sm (by simp [kn]) (by simp) (fun c x N he _ => ?_) (by simp [offN]) (by simp [offN]))
      · show ((⟨9, _, false⟩ : ThZ), rgS ws ((offZ _ _).getD 0) r4, EffW.act 7 ((offZ _ _).getD 0).toNat (rgZ ws ((offZ _ _).getD 0)) r4) = _
        rw [hoff]
        rfl
      · cases he; exact k1
    · obtain ⟨k1, k2, k3, k4⟩ := hok
      obtain ⟨m1, m2, m3, m4⟩ := wd_mod hn k3
      obtain ⟨p, hp⟩ := Int.eq_ofNat_of_zero_le (show 0 ≤ r6 by omega)
      subst hp
      have hoff : offZ ⟨9, [0, r1, r2, r3, r4, r5, (p : Int), 0], false⟩ ⟨15, 0, 1, 6, 0⟩ = some (p : Int) := by
        rw [offZ, if_neg (by decide)]
        show (if (300 : Int) ≤ (p : Int) then none else some (0 + (p : Int))) = _
        rw [if_neg (by omega), Int.zero_add]
      refine inn (o' := 10) (r1' := r1) (r2' := r2) (r3' := r3) (r4' := r4) (r5' := r5) (r6' := (p : Int)) (ws' := ws) (e := .wake p 1) rfl (.inr (.inr (.inr (.inr (.inr (.inr (.inr (.inr (.inr (.inr (.inr ⟨.inr rfl, p, hoff, by omega⟩))))))))))) ?_ (by decide) (sm (by simp [kn]) (by simp) (by simp) (by simp [offN]) (by simp [offN]))
      · show ((⟨10, _, false⟩ : ThZ), ws, EffW.wake ((offZ _ _).getD 0).toNat 1) = _
        rw [hoff]
        rfl
    · obtain ⟨k1, k2, k3⟩ := hok
      have hdv := wd_div hn k3
      refine inn (o' := 11) (r2' := bitsZ r1 16 16) rfl (cellK_ok (by simp [cellK])) rfl (by decide) (sm (by rw [hdv]; simp [kn]) (by simp) (by simp) (by simp [offN]) (by simp [offN]))
    · refine inn (o' := 21) rfl (cellK_ok (by simp [cellK])) rfl (by decide) (sm (by simp [kn]) (by simp) (by simp) (by simp [offN]) (by simp [offN]))
    · obtain ⟨k1, k2, rfl⟩ := hok
      by_cases h1 : rgZ ws 0 = 0
      · refine inn (o' := 13) (r1' := 0) (r2' := r2) (r3' := 1) (r4' := r4) (r5' := r5) (r6' := r6) (ws' := rgS ws 0 r5) (e := .act 9 0 0 r5) rfl (cellK_ok (by simp [cellK])) ((nx_swap h1).trans ?_) (by decide) (sm (by simp [kn]) (by simp) (by simp) (by simp [kn]) (by simp [offN]))
        rw [h1]; rfl
      · refine inn (o' := 13) (r3' := 0) rfl (cellK_ok (by simp [cellK])) (nx_swap' h1) (by decide) (sm (by simp [kn]) (by simp) (by simp) (by simp [kn]) (by simp [offN]))
    · obtain ⟨k1, k2, k3⟩ := hok
      rcases k3 with rfl | rfl
      · refine inn (o' := 2) rfl (cellK_ok (by simp [cellK])) (nx_same rfl) (by decide) (sm (by simp [kn]) (by simp) (by simp) (by simp [offN]) (by simp [offN]))
      · refine inn (o' := 14) rfl (cellK_ok (by simp [cellK])) (nx_same' (fun e => absurd (show (1 : Int) = 0 from e) (by decide))) (by decide) (sm (by simp [kn]) (by simp) (by simp) (by simp [offN]) (by simp [offN]))
    · have hx : rgZ ws (q.1 : Int) = xF ws t := by rw [hqc]
      by_cases h1 : xF ws t = 0
      · refine inn (o' := 15) (r2' := rgZ ws q.1) rfl (cellK_ok (by simp [cellK])) rfl (by decide) (sm (by rw [hx, h1]; simp [kn]) (by simp) (by simp) (by simp [offN]) (by simp [offN]))
      · refine inn (o' := 15) (r2' := rgZ ws q.1) rfl (cellK_ok (by simp [cellK])) rfl (by decide) (.read rfl ?_ h1 ?_ ⟨_, _, _, rfl⟩)
        · rw [vw_at hb]; simp [trView, offN]
        · rw [kn_at hb]
          show kn 15 r1 (rgZ ws q.1) r3 = _
          rw [hx]
          simp [kn, h1]
    · by_cases h1 : r2 = 0
      · refine inn (o' := 17) rfl (cellK_ok (by simp [cellK])) (nx_same h1) (by decide) (sm (by simp [kn, h1]) (by simp) (by simp) (by simp [offN]) (by simp [offN]))
      · refine inn (o' := 16) rfl (cellK_ok (by simp [cellK])) (nx_same' h1) (by decide) (sm (by simp [kn, h1]) (by simp) (by simp) (by simp [offN]) (by simp [offN]))
    · refine inn (o' := 19) rfl (cellK_ok (by simp [cellK])) rfl (by decide) (sm (by simp [kn]) (by simp) (by simp) (by simp [offN]) (by simp [kn]))
    · obtain ⟨k1, k2, rfl⟩ := hok
      by_cases h1 : xF ws t = 0
      · refine inn (o' := 18) (r1' := r1) (r2' := 0) (r3' := r3) (r4' := r4) (r5' := r5) (r6' := r6) (e := .sleep (t + 1)) rfl (cellK_ok (by simp [cellK])) ((nx_wait (by rw [hqc]; exact h1)).trans (by rw [hqc]; rfl)) (by decide) (sm (by simp [kn]) (by simp) (by simp) (by simp [offN]) (by simp [offN]))
      · refine inn (o' := 18) rfl (cellK_ok (by simp [cellK])) (nx_wait' (by rw [hqc]; exact h1)) (by decide) (sm (by simp [kn]) (by simp) (by simp) (by simp [offN]) (by simp [offN]))
    · refine inn (o' := 14) rfl (cellK_ok (by simp [cellK])) rfl (by decide) (sm (by simp [kn]) (by simp) (by simp) (by simp [offN]) (by simp [offN]))
    · refine inn (o' := 20) (r3' := 0) rfl (cellK_ok (by simp [cellK])) rfl (by decide) (sm (by simp [kn]) (by simp) (by simp) (by simp [offN]) (by simp [offN]))
    · obtain ⟨k1, k2, rfl⟩ := hok
      refine inn (o' := 21) (r1' := r1) (r2' := r2) (r3' := 0) (r4' := r4) (r5' := r5) (r6' := r6) (ws' := rgS ws ((t + 1 : Nat) : Int) 0) (e := .act 7 (t + 1) (rgZ ws ((t + 1 : Nat) : Int)) 0) rfl (cellK_ok (by simp [cellK]; omega)) ?_ (by decide) (sm (by simp [kn]) (by simp) (by simp [trView]) (by simp [offN]) (by simp [offN]))
      rw [hqc]; rfl
    · have h2 := hk (r2 - 1) (by show kn 21 r1 r2 r3 = _; simp [kn])
      have e2 : u64m (r2 + u64m (-1)) = r2 - 1 := by
        rw [u64m, u64m, wrap_u64_mod, wrap_u64_mod]
        omega
      refine inn (o' := 22) (r2' := u64m (r2 + u64m (-1))) rfl (cellK_ok (by simp [cellK])) rfl (by decide) (sm (by rw [e2]; simp [kn]) (by simp) (by simp) (by simp [offN]) (by simp [offN]))
    · refine ⟨_, _, _, LS.out hb (i := ⟨16, 3, 2, 0, 0⟩) (o' := 23) (rg' := [0, r1, r2, r3, r4, r5, r6, 0]) rfl (cellK_ok (by simp [cellK])) rfl rfl, .say r2 rfl ?_ (kn_0 ..) rfl (vw_0 ..)⟩
      rw [kn_at hb]
      show kn 22 r1 r2 r3 = _
      simp [kn]
  · have hno : l[l.length]? = none := by simp
    refine ⟨_, _, _, LS.halt rfl, .same rfl ?_ (by simp) (by simp) ?_ ?_ ?_⟩
    · simp [knG, hno]
    · simp [viewG, hno, v0t]
    · simp [viewG, hno, v0t]
    · simp [viewG, hno, v0t]

end Go.Mac
