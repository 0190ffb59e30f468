/- Threads that trade: what a step of one comes to. -/
import Derived.Test.YtlimhldkkbaohaaDoorQTrZ
open Go Go.Proofs Go.Mac
set_option maxRecDepth 100000
namespace Go.Mac

theorem vw_at {l : List (Nat × Nat)} {j : Nat} {q : Nat × Nat} (h : l[j]? = some q) (o : Nat) (rg : List Int) (d : Bool) : viewG l ⟨j, ⟨o, rg, d⟩⟩ = trView o (rgZ rg 1) (rgZ rg 3) (rgZ rg 5) (rgZ rg 6) := by rw [viewG, h]
theorem tlp_at {c0 x : Int} {l : List (Nat × Nat)} {j : Nat} {q : Nat × Nat} (h : l[j]? = some q) (o : Nat) (rg : List Int) : trLp c0 x l ⟨j, ⟨o, rg, false⟩⟩ = 70 * (l.length - (j + 1)) + trN c0 x (some q) o (rgZ rg 1) (rgZ rg 2) (rgZ rg 3) + 1 := by rw [trLp, h]; rfl
theorem tlp_0 (c0 x : Int) (l : List (Nat × Nat)) (j : Nat) (rg : List Int) : trLp c0 x l ⟨j, ⟨0, rg, false⟩⟩ ≤ 70 * (l.length - j) + 1 := by
  cases h : l[j]? with
  | none =>
    rw [trLp, h]
    have := List.getElem?_eq_none_iff.1 h
    show 70 * (l.length - (j + 1)) + 0 + 1 ≤ _
    omega
  | some q =>
    have := (List.getElem?_eq_some_iff.1 h).1
    rw [tlp_at h]
    simp only [trN]
    omega

abbrev sameV (v v' : VZt) : Prop := v'.off = v.off ∧ v'.clr = v.clr ∧ v'.tk = v.tk ∧ v'.w = v.w

inductive TrOut (n t : Nat) (l : List (Nat × Nat)) (g : GZ) (ws : List Int) (g' : GZ) (ws' : List Int) (e : EffW) : Prop
  | quiet (hw : ws' = ws) (he : e = .no ∨ (∃ a x, e = .say a x) ∨ ∃ o c x, e = .act o c x x) (hv : sameV (viewG l g) (viewG l g')) (hk : (viewG l g).wk = 0) (hpar : g'.j + trE (rgZ ws 0) (viewG l g') = g.j + trE (rgZ ws 0) (viewG l g)) (hp : trLp (rgZ ws 0) (xF ws t) l g' + 1 ≤ trLp (rgZ ws 0) (xF ws t) l g)
  | take (hw : ws' = rgS ws 0 0) (h0 : rgZ ws 0 ≠ 0) (he : e = .act 9 0 (rgZ ws 0) 0) (hv : (viewG l g).off = false ∧ (viewG l g).clr = false ∧ (viewG l g).tk = 0 ∧ (viewG l g).got = false) (hv' : (viewG l g').off = false ∧ (viewG l g').clr = false ∧ (viewG l g').tk = rgZ ws 0 % 65536) (hk : (viewG l g).wk = 0) (hj : g'.j = g.j)
    (hp : trLp 0 (xF ws t) l g' + 41 ≤ trLp (rgZ ws 0) (xF ws t) l g)
  | put (N : Int) (hN : N ≠ 0) (hw : ws' = rgS ws (viewG l g).tk N) (he : ∃ x, e = .act 7 (viewG l g).tk.toNat x N) (hv : (viewG l g).off = false ∧ (viewG l g).clr = false ∧ (viewG l g).tk ≠ 0) (hv' : (viewG l g').off = false ∧ (viewG l g').clr = false ∧ (viewG l g').tk = 0 ∧ (viewG l g').got = true) (hk : (viewG l g).wk = 0) (hk' : (viewG l g').wk = (viewG l g).tk) (hj : g'.j = g.j)
    (hp : trLp (rgZ ws 0) (xF ws t) l g' + 9 ≤ trLp (rgZ ws 0) (xF ws t) l g)
  | wake (hw : ws' = ws) (he : e = .wake (viewG l g).wk.toNat 1) (hv : sameV (viewG l g) (viewG l g')) (hpar : g'.j + trE (rgZ ws 0) (viewG l g') = g.j + trE (rgZ ws 0) (viewG l g)) (hp : trLp (rgZ ws 0) (xF ws t) l g' + 9 ≤ trLp (rgZ ws 0) (xF ws t) l g)
  | offer (hw : ws' = rgS ws 0 (viewG l g').w) (h0 : rgZ ws 0 = 0) (he : e = .act 9 0 0 (viewG l g').w) (hv : (viewG l g).off = false ∧ (viewG l g).clr = false ∧ (viewG l g).tk = 0 ∧ (viewG l g).got = false) (hv' : (viewG l g').off = true ∧ (viewG l g').clr = false ∧ (viewG l g').tk = 0 ∧ (viewG l g').got = false)
    (hww : (viewG l g').w % 65536 = t + 1 ∧ 65536 ≤ (viewG l g').w ∧ wd n (viewG l g').w) (hk : (viewG l g).wk = 0) (hj : g'.j = g.j) (hp : trLp (viewG l g').w (xF ws t) l g' + 41 ≤ trLp 0 (xF ws t) l g)
  | seen (hw : ws' = ws) (he : e = .no) (hx : xF ws t ≠ 0) (hv : (viewG l g).off = true ∧ (viewG l g).tk = 0) (hv' : (viewG l g').off = false ∧ (viewG l g').clr = true ∧ (viewG l g').tk = 0) (hk : (viewG l g).wk = 0) (hj : g'.j = g.j) (hp : trLp (rgZ ws 0) (xF ws t) l g' + 1 ≤ trLp (rgZ ws 0) (xF ws t) l g)
  | sleep (hw : ws' = ws) (hx : xF ws t = 0) (he : e = .sleep (t + 1)) (hv : sameV (viewG l g) (viewG l g')) (hk : (viewG l g).wk = 0) (hpar : g'.j + trE (rgZ ws 0) (viewG l g') = g.j + trE (rgZ ws 0) (viewG l g)) (hs : (∃ q, l[g'.j]? = some q) ∧ g'.y.pc = 18 ∧ g'.y.dn = false) (hp : trLp (rgZ ws 0) (xF ws t) l g' ≤ trLp (rgZ ws 0) (xF ws t) l g + 7)
  | clear (hw : ws' = rgS ws ((t + 1 : Nat) : Int) 0) (he : ∃ x, e = .act 7 (t + 1) x 0) (hv : (viewG l g).off = false ∧ (viewG l g).clr = true ∧ (viewG l g).tk = 0) (hv' : (viewG l g').off = false ∧ (viewG l g').clr = false ∧ (viewG l g').tk = 0 ∧ (viewG l g').got = true) (hk : (viewG l g).wk = 0) (hj : g'.j = g.j)
    (hp : trLp (rgZ ws 0) 0 l g' + 1 ≤ trLp (rgZ ws 0) (xF ws t) l g)

theorem tr_bits0 : ∀ p : Fin 9, ∀ N : Fin 101, bitsZ ((p.val : Int) + (N.val : Int) * 65536) 0 16 = (p.val : Int) := by decide +kernel

theorem wd_mod {n : Nat} (hn : n ≤ 8) {r : Int} (h : wd n r) : bitsZ r 0 16 = r % 65536 ∧ 1 ≤ r % 65536 ∧ r % 65536 ≤ n ∧ r ≠ 0 := by
  obtain ⟨p, N, h1, h2, h3, h4, rfl⟩ := h
  have := tr_bits0 ⟨p, by omega⟩ ⟨N, by omega⟩
  dsimp only at this
  rw [this]
  omega

theorem tr_G0 {n : Nat} {l : List (Nat × Nat)} {j : Nat} {q : Nat × Nat} (hb : l[j]? = some q) (r1 r2 r3 r4 r5 r6 : Int) : TrG n l ⟨j + 1, ⟨0, [0, r1, r2, r3, r4, r5, r6, 0], false⟩⟩ := by
  have hlt := (List.getElem?_eq_some_iff.1 hb).1
  refine ⟨r1, r2, r3, r4, r5, r6, rfl, .inr ⟨rfl, ?_⟩⟩
  cases h : l[j + 1]? with
  | none => exact .inr ⟨by have := List.getElem?_eq_none_iff.1 h; show j + 1 = _; omega, rfl⟩
  | some c => exact .inl ⟨c, by first | exact h | rfl, by simp [trOk]⟩

theorem vw_0 (l : List (Nat × Nat)) (j : Nat) (rg : List Int) (d : Bool) : viewG l ⟨j, ⟨0, rg, d⟩⟩ = v0t := by
  cases h : l[j]? with
  | none => rw [viewG, h]
  | some q => rw [vw_at h]; rfl

set_option maxHeartbeats 4000000 in
theorem tr_local {n t : Nat} {l : List (Nat × Nat)} {g : GZ} {ws : List Int} (hn : n ≤ 8) (ht : t < n) (hq : ∀ q ∈ l, q.1 = t + 1 ∧ 1 ≤ q.2 ∧ q.2 ≤ 100) (h0 : rgZ ws 0 = 0 ∨ wd n (rgZ ws 0)) (h : TrG n l g) (hsaw : sawG (xF ws t) l g) (hd : g.y.dn = false) :
    ∃ g' ws' e, LS 17 (l.map trdB) g ws g' ws' e ∧ TrG n l g' ∧ sawG (xF ws' t) l g' ∧ TrOut n t l g ws g' ws' e := by
  obtain ⟨r1, r2, r3, r4, r5, r6, hrg, hcase⟩ := h
  obtain ⟨j, o, rg, dn⟩ := g
  dsimp only at hd hrg hcase
  subst hd hrg
  rcases hcase with ⟨h1, _⟩ | ⟨_, ⟨q, hb, hok⟩ | ⟨rfl, rfl⟩⟩
  · cases h1
  · obtain ⟨hq1, hq2, hq3⟩ := hq q (List.mem_of_getElem? hb)
    have hqc : (q.1 : Int) = ((t + 1 : Nat) : Int) := by omega
    have hsw := hsaw q hb
    clear hsaw
    dsimp only at hsw
    have inn {o' : Nat} {r1' r2' r3' r4' r5' r6' : Int} {ws' : List Int} {e : EffW} {i : InsZ} (hi : (trdB q)[o]? = some i) (hc : cellsC 17 ⟨o, [0, r1, r2, r3, r4, r5, r6, 0], false⟩ i)
        (hnx : nextW i ⟨o, [0, r1, r2, r3, r4, r5, r6, 0], false⟩ ws = (⟨o', [0, r1', r2', r3', r4', r5', r6', 0], false⟩, ws', e)) (h' : trOk n q o' r1' r2' r3' r4' r5' r6') (hs : (o' = 15 ∧ r2' ≠ 0 ∨ o' = 16) → xF ws' t ≠ 0)
        (hout : TrOut n t l ⟨j, ⟨o, [0, r1, r2, r3, r4, r5, r6, 0], false⟩⟩ ws ⟨j, ⟨o', [0, r1', r2', r3', r4', r5', r6', 0], false⟩⟩ ws' e) :
        ∃ g' ws' e, LS 17 (l.map trdB) ⟨j, ⟨o, [0, r1, r2, r3, r4, r5, r6, 0], false⟩⟩ ws g' ws' e ∧ TrG n l g' ∧ sawG (xF ws' t) l g' ∧ TrOut n t l ⟨j, ⟨o, [0, r1, r2, r3, r4, r5, r6, 0], false⟩⟩ ws g' ws' e :=
      ⟨_, _, _, LS.inn hb hi hc hnx h'.1, ⟨r1', r2', r3', r4', r5', r6', rfl, .inr ⟨rfl, .inl ⟨q, hb, h'⟩⟩⟩, fun _ _ => hs, hout⟩
    have ho := hok.1
    rcases (show o = 0 ∨ o = 1 ∨ o = 2 ∨ o = 3 ∨ o = 4 ∨ o = 5 ∨ o = 6 ∨ o = 7 ∨ o = 8 ∨ o = 9 ∨ o = 10 ∨ o = 11 ∨ o = 12 ∨ o = 13 ∨ o = 14 ∨ o = 15 ∨ o = 16 ∨ o = 17 ∨ o = 18 ∨ o = 19 ∨ o = 20 ∨ o = 21 ∨ o = 22 by omega) with rfl | rfl | rfl | rfl | rfl | rfl | rfl | rfl | rfl | rfl | rfl | rfl | rfl | rfl | rfl | rfl | rfl | rfl | rfl | rfl | rfl | rfl | rfl <;> simp [trOk] at hok <;> simp at hsw
    · have e4 : u64m (q.2 : Int) = q.2 := wrap_u64 _ (by omega) (by omega)
      refine inn (o' := 1) (r4' := u64m (q.2 : Int)) rfl (cellK_ok (by simp [cellK])) rfl (by simp only [e4]; simp [trOk]) (by simp) (.quiet rfl (.inl rfl) ?_ ?_ ?_ ?_)
      all_goals try simp only [vw_at hb, tlp_at hb]
      all_goals (simp [sameV, trView, offN, trE, trN, rgZ]; done)
    · have e5 : u64m ((q.1 : Int) + (q.2 : Int) * 65536) = (q.1 : Int) + (q.2 : Int) * 65536 := wrap_u64 _ (by omega) (by omega)
      refine inn (o' := 2) (r5' := u64m ((q.1 : Int) + (q.2 : Int) * 65536)) rfl (cellK_ok (by simp [cellK])) rfl (by simp only [e5]; simp [trOk, hok]) (by simp) (.quiet rfl (.inl rfl) ?_ ?_ ?_ ?_)
      all_goals try simp only [vw_at hb, tlp_at hb]
      all_goals (simp [sameV, trView, offN, trE, trN, rgZ]; done)
    · refine inn (o' := 3) (r1' := rgZ ws 0) rfl (cellK_ok (by simp [cellK])) rfl (by simp [trOk, hok, h0]) (by simp) (.quiet rfl (.inr (.inr ⟨_, _, _, rfl⟩)) ?_ ?_ ?_ ?_)
      all_goals try simp only [vw_at hb, tlp_at hb]
      all_goals first | (simp [sameV, trView, offN, trE, rgZ]; done) | (simp [trN, rgZ]; done)
    · by_cases h1 : r1 = 0
      · refine inn (o' := 12) rfl (cellK_ok (by simp [cellK])) (nx_same h1) (by simp [trOk, hok, h1]) (by simp) (.quiet rfl (.inl rfl) ?_ ?_ ?_ ?_)
        all_goals try simp only [vw_at hb, tlp_at hb]
        all_goals first | (simp [sameV, trView, offN, trE, rgZ]; done) | (simp [trN, rgZ, h1]; (repeat' split) <;> omega)
      · have hwd : wd n r1 := by
          rcases hok.2.2 with h | h
          · exact absurd h h1
          · exact h
        refine inn (o' := 4) rfl (cellK_ok (by simp [cellK])) (nx_same' h1) (by simp [trOk, hok, hwd]) (by simp) (.quiet rfl (.inl rfl) ?_ ?_ ?_ ?_)
        all_goals try simp only [vw_at hb, tlp_at hb]
        all_goals first | (simp [sameV, trView, offN, trE, rgZ]; done) | (simp [trN, rgZ]; (repeat' split) <;> omega)
    · refine inn (o' := 5) (r2' := 0) rfl (cellK_ok (by simp [cellK])) rfl (by simp [trOk, hok]) (by simp) (.quiet rfl (.inl rfl) ?_ ?_ ?_ ?_)
      all_goals try simp only [vw_at hb, tlp_at hb]
      all_goals first | (simp [sameV, trView, offN, trE, rgZ]; done) | (simp [trN, rgZ]; (repeat' split) <;> omega)
    · obtain ⟨k1, k2, k3, rfl⟩ := hok
      obtain ⟨m1, m2, m3, m4⟩ := wd_mod hn k3
      by_cases h1 : rgZ ws 0 = r1
      · subst h1
        refine inn (o' := 6) (r3' := 1) (ws' := rgS ws 0 0) rfl (cellK_ok (by simp [cellK])) (nx_swap rfl) (by simp [trOk, k1, k2, k3]) (by simp) (.take rfl m4 rfl ?_ ?_ ?_ rfl ?_)
        all_goals try simp only [vw_at hb, tlp_at hb]
        all_goals first | (simp [sameV, trView, offN, trE, rgZ]; done) | (simp [trN, rgZ]; done)
      · refine inn (o' := 6) (r3' := 0) rfl (cellK_ok (by simp [cellK])) (nx_swap' h1) (by simp [trOk, k1, k2, k3]) (by simp) (.quiet rfl (.inr (.inr ⟨_, _, _, rfl⟩)) ?_ ?_ ?_ ?_)
        all_goals try simp only [vw_at hb, tlp_at hb]
        all_goals first | (simp [sameV, trView, offN, trE, rgZ]; done) | (have h1' : ¬ r1 = rgZ ws 0 := fun e => h1 e.symm; simp [trN, rgZ] at h1' ⊢; simp [h1']; done)
    · obtain ⟨k1, k2, k3, k4⟩ := hok
      rcases k4 with rfl | rfl
      · refine inn (o' := 2) rfl (cellK_ok (by simp [cellK])) (nx_same rfl) (by simp [trOk, k1, k2]) (by simp) (.quiet rfl (.inl rfl) ?_ ?_ ?_ ?_)
        all_goals try simp only [vw_at hb, tlp_at hb]
        all_goals first | (simp [sameV, trView, offN, trE, rgZ]; done) | (simp [trN, rgZ]; done)
      · refine inn (o' := 7) rfl (cellK_ok (by simp [cellK])) (nx_same' (fun e => absurd (show (1 : Int) = 0 from e) (by decide))) (by simp [trOk, k1, k2, k3]) (by simp) (.quiet rfl (.inl rfl) ?_ ?_ ?_ ?_)
        all_goals try simp only [vw_at hb, tlp_at hb]
        all_goals first | (simp [sameV, trView, offN, trE, rgZ]; done) | (simp [trN, rgZ]; done)
    · obtain ⟨k1, k2, k3⟩ := hok
      obtain ⟨m1, m2, m3, m4⟩ := wd_mod hn k3
      refine inn (o' := 8) (r6' := bitsZ r1 0 16) rfl (cellK_ok (by simp [cellK])) rfl (by simp [trOk, k1, k2, k3, m1]) (by simp) (.quiet rfl (.inl rfl) ?_ ?_ ?_ ?_)
      all_goals try simp only [vw_at hb, tlp_at hb]
      all_goals first | (simp [sameV, trView, offN, trE, rgZ]; done) | (simp [trN, rgZ]; done)
    · obtain ⟨k1, k2, k3, k4⟩ := hok
      obtain ⟨m1, m2, m3, m4⟩ := wd_mod hn k3
      obtain ⟨p, hp⟩ := Int.eq_ofNat_of_zero_le (show 0 ≤ r6 by omega)
      subst hp
      have hoff : offZ ⟨8, [0, r1, r2, r3, r4, r5, (p : Int), 0], false⟩ ⟨7, 0, 4, 6, 0⟩ = some (p : Int) := by
        rw [offZ, if_neg (by decide)]
        show (if (300 : Int) ≤ (p : Int) then none else some (0 + (p : Int))) = _
        rw [if_neg (by omega), Int.zero_add]
      have hvt : (trView 8 r1 r3 r5 (p : Int)).tk = (p : Int) := by
        simp [trView]
        omega
      refine inn (o' := 9) (r1' := r1) (r2' := r2) (r3' := r3) (r4' := r4) (r5' := r5) (r6' := (p : Int)) (ws' := rgS ws (p : Int) r4) (e := .act 7 p (rgZ ws (p : Int)) r4) rfl (.inr (.inr (.inr (.inr (.inr (.inr (.inr (.inr (.inr (.inr (.inr ⟨.inl rfl, p, hoff, by omega⟩))))))))))) ?_ (by simp [trOk, k1, k2, k3, k4]) (by simp) (.put r4 (by omega) ?_ ⟨rgZ ws (p : Int), ?_⟩ ?_ ?_ ?_ ?_ rfl ?_)
      · show ((⟨9, _, false⟩ : ThZ), rgS ws ((offZ _ _).getD 0) r4, EffW.act 7 ((offZ _ _).getD 0).toNat (rgZ ws ((offZ _ _).getD 0)) r4) = _
        rw [hoff]
        rfl
      all_goals try simp only [vw_at hb, tlp_at hb]
      · exact congrArg (fun x => rgS ws x r4) hvt.symm
      · have : (trView 8 r1 r3 r5 (p : Int)).tk.toNat = p := by rw [hvt]; exact Int.toNat_natCast p
        exact congrArg (fun x => EffW.act 7 x (rgZ ws (p : Int)) r4) this.symm
      · exact ⟨rfl, rfl, fun e => by have e : (trView 8 r1 r3 r5 (p : Int)).tk = 0 := e; rw [hvt] at e; omega⟩
      · simp [sameV, trView, offN]
      · simp [sameV, trView, offN]
      · exact Eq.trans (by simp [trView, rgZ]) hvt.symm
      · simp [trN]
    · obtain ⟨k1, k2, k3, k4⟩ := hok
      obtain ⟨m1, m2, m3, m4⟩ := wd_mod hn k3
      obtain ⟨p, hp⟩ := Int.eq_ofNat_of_zero_le (show 0 ≤ r6 by omega)
      subst hp
      have hoff : offZ ⟨9, [0, r1, r2, r3, r4, r5, (p : Int), 0], false⟩ ⟨15, 0, 1, 6, 0⟩ = some (p : Int) := by
        rw [offZ, if_neg (by decide)]
        show (if (300 : Int) ≤ (p : Int) then none else some (0 + (p : Int))) = _
        rw [if_neg (by omega), Int.zero_add]
      refine inn (o' := 10) (r1' := r1) (r2' := r2) (r3' := r3) (r4' := r4) (r5' := r5) (r6' := (p : Int)) (e := .wake p 1) rfl (.inr (.inr (.inr (.inr (.inr (.inr (.inr (.inr (.inr (.inr (.inr ⟨.inr rfl, p, hoff, by omega⟩))))))))))) ?_ (by simp [trOk, k1, k2, k3]) (by simp) (.wake rfl ?_ ?_ ?_ ?_)
      · show ((⟨10, _, false⟩ : ThZ), ws, EffW.wake ((offZ _ _).getD 0).toNat 1) = _
        rw [hoff]
        rfl
      all_goals try simp only [vw_at hb, tlp_at hb]
      · rfl
      · simp [sameV, trView, offN]
      · simp [sameV, trView, offN, trE]
      · simp [trN]
    · refine inn (o' := 11) (r2' := bitsZ r1 16 16) rfl (cellK_ok (by simp [cellK])) rfl (by simp [trOk, hok]) (by simp) (.quiet rfl (.inl rfl) ?_ ?_ ?_ ?_)
      all_goals try simp only [vw_at hb, tlp_at hb]
      all_goals first | (simp [sameV, trView, offN, trE, rgZ]; done) | (simp [trN, rgZ]; done)
    · refine inn (o' := 21) rfl (cellK_ok (by simp [cellK])) rfl (by simp [trOk, hok]) (by simp) (.quiet rfl (.inl rfl) ?_ ?_ ?_ ?_)
      all_goals try simp only [vw_at hb, tlp_at hb]
      all_goals first | (simp [sameV, trView, offN, trE, rgZ]; done) | (simp [trN, rgZ]; done)
    · obtain ⟨k1, k2, rfl⟩ := hok
      by_cases h1 : rgZ ws 0 = 0
      · have hw : rgZ [0, 0, r2, 1, r4, r5, r6, 0] 5 = r5 := rfl
        refine inn (o' := 13) (r1' := 0) (r2' := r2) (r3' := 1) (r4' := r4) (r5' := r5) (r6' := r6) (ws' := rgS ws 0 r5) (e := .act 9 0 0 r5) rfl (cellK_ok (by simp [cellK])) ((nx_swap h1).trans ?_) (by simp [trOk, k1, k2]) (by simp) (.offer ?_ h1 ?_ ?_ ?_ ?_ ?_ rfl ?_)
        · rw [h1]; rfl
        all_goals try simp only [vw_at hb, tlp_at hb]
        · simp [sameV, trView, offN, rgZ]
        · simp [sameV, trView, offN, rgZ]
        · simp [sameV, trView, offN, rgZ]
        · simp [sameV, trView, offN, rgZ]
        · have e : (trView 13 (rgZ [0, 0, r2, 1, r4, r5, r6, 0] 1) (rgZ [0, 0, r2, 1, r4, r5, r6, 0] 3) (rgZ [0, 0, r2, 1, r4, r5, r6, 0] 5) (rgZ [0, 0, r2, 1, r4, r5, r6, 0] 6)).w = r5 := rfl
          rw [e]
          exact ⟨by omega, by omega, t + 1, q.2, by omega, by omega, by omega, by omega, by omega⟩
        · simp [sameV, trView, offN, rgZ]
        · simp [trN, rgZ]
      · refine inn (o' := 13) (r3' := 0) rfl (cellK_ok (by simp [cellK])) (nx_swap' h1) (by simp [trOk, k1, k2]) (by simp) (.quiet rfl (.inr (.inr ⟨_, _, _, rfl⟩)) ?_ ?_ ?_ ?_)
        all_goals try simp only [vw_at hb, tlp_at hb]
        all_goals first | (simp [sameV, trView, offN, trE, rgZ]; done) | (have h1' : ¬ rgZ ws 0 = 0 := h1; simp [trN, rgZ] at h1' ⊢; simp [h1']; done)
    · obtain ⟨k1, k2, k3⟩ := hok
      rcases k3 with rfl | rfl
      · refine inn (o' := 2) rfl (cellK_ok (by simp [cellK])) (nx_same rfl) (by simp [trOk, k1, k2]) (by simp) (.quiet rfl (.inl rfl) ?_ ?_ ?_ ?_)
        all_goals try simp only [vw_at hb, tlp_at hb]
        all_goals first | (simp [sameV, trView, offN, trE, rgZ]; done) | (simp [trN, rgZ]; done)
      · refine inn (o' := 14) rfl (cellK_ok (by simp [cellK])) (nx_same' (fun e => absurd (show (1 : Int) = 0 from e) (by decide))) (by simp [trOk, k1, k2]) (by simp) (.quiet rfl (.inl rfl) ?_ ?_ ?_ ?_)
        all_goals try simp only [vw_at hb, tlp_at hb]
        all_goals first | (simp [sameV, trView, offN, trE, rgZ]; done) | (simp [trN, rgZ]; done)
    · refine inn (o' := 15) (r2' := rgZ ws q.1) rfl (cellK_ok (by simp [cellK])) rfl (by simp [trOk, hok]) (fun h => ?_) (.quiet rfl (.inr (.inr ⟨_, _, _, rfl⟩)) ?_ ?_ ?_ ?_)
      · rw [hqc] at h
        rcases h with h | h
        · exact h.2
        · cases h
      all_goals try simp only [vw_at hb, tlp_at hb]
      · simp [sameV, trView, offN, rgZ]
      · simp [sameV, trView, offN, rgZ]
      · simp [sameV, trView, offN, trE, rgZ]
      · rw [hqc]
        generalize hxx : xF ws t = xx
        have hxx : rgZ ws ((t + 1 : Nat) : Int) = xx := hxx
        rw [hxx]
        simp [trN, rgZ]
        split <;> omega
    · by_cases h1 : r2 = 0
      · refine inn (o' := 17) rfl (cellK_ok (by simp [cellK])) (nx_same h1) (by simp [trOk, hok, h1]) (by simp) (.quiet rfl (.inl rfl) ?_ ?_ ?_ ?_)
        all_goals try simp only [vw_at hb, tlp_at hb]
        · simp [sameV, trView, offN, rgZ]
        · simp [sameV, trView, offN, rgZ]
        · simp [sameV, trView, offN, trE, rgZ]
        · generalize xF ws t = xx
          simp [trN, rgZ, h1]
          split <;> omega
      · refine inn (o' := 16) rfl (cellK_ok (by simp [cellK])) (nx_same' h1) (by simp [trOk, hok, h1]) (fun _ => hsw h1) (.quiet rfl (.inl rfl) ?_ ?_ ?_ ?_)
        all_goals try simp only [vw_at hb, tlp_at hb]
        all_goals first | (simp [sameV, trView, offN, trE, rgZ]; done) | (simp [trN, rgZ, h1]; done)
    · refine inn (o' := 19) rfl (cellK_ok (by simp [cellK])) rfl (by simp [trOk, hok]) (by simp) (.seen rfl rfl hsw ?_ ?_ ?_ rfl ?_)
      all_goals try simp only [vw_at hb, tlp_at hb]
      all_goals first | (simp [sameV, trView, offN, trE, rgZ]; done) | (simp [trN, rgZ]; done)
    · obtain ⟨k1, k2, rfl⟩ := hok
      by_cases h1 : xF ws t = 0
      · refine inn (o' := 18) (r1' := r1) (r2' := 0) (r3' := r3) (r4' := r4) (r5' := r5) (r6' := r6) (e := .sleep (t + 1)) rfl (cellK_ok (by simp [cellK])) ((nx_wait (by rw [hqc]; exact h1)).trans (by rw [hqc]; rfl)) (by simp [trOk, k1, k2]) (by simp) (.sleep rfl h1 rfl ?_ ?_ ?_ ⟨⟨q, hb⟩, rfl, rfl⟩ ?_)
        all_goals try simp only [vw_at hb, tlp_at hb]
        · simp [sameV, trView, offN, rgZ]
        · simp [sameV, trView, offN, rgZ]
        · simp [sameV, trView, offN, trE, rgZ]
        · rw [h1]
          simp [trN]
      · refine inn (o' := 18) rfl (cellK_ok (by simp [cellK])) (nx_wait' (by rw [hqc]; exact h1)) (by simp [trOk, k1, k2]) (by simp) (.quiet rfl (.inl rfl) ?_ ?_ ?_ ?_)
        all_goals try simp only [vw_at hb, tlp_at hb]
        · simp [sameV, trView, offN, rgZ]
        · simp [sameV, trView, offN, rgZ]
        · simp [sameV, trView, offN, trE, rgZ]
        · generalize xF ws t = xx at h1
          simp [trN, h1]
    · refine inn (o' := 14) rfl (cellK_ok (by simp [cellK])) rfl (by simp [trOk, hok]) (by simp) (.quiet rfl (.inl rfl) ?_ ?_ ?_ ?_)
      all_goals try simp only [vw_at hb, tlp_at hb]
      all_goals first | (simp [sameV, trView, offN, trE, rgZ]; done) | (simp [trN, rgZ]; done)
    · refine inn (o' := 20) (r3' := 0) rfl (cellK_ok (by simp [cellK])) rfl (by simp [trOk, hok]) (by simp) (.quiet rfl (.inl rfl) ?_ ?_ ?_ ?_)
      all_goals try simp only [vw_at hb, tlp_at hb]
      all_goals first | (simp [sameV, trView, offN, trE, rgZ]; done) | (simp [trN, rgZ]; done)
    · obtain ⟨k1, k2, rfl⟩ := hok
      refine inn (o' := 21) (r1' := r1) (r2' := r2) (r3' := 0) (r4' := r4) (r5' := r5) (r6' := r6) (ws' := rgS ws ((t + 1 : Nat) : Int) 0) (e := .act 7 (t + 1) (rgZ ws ((t + 1 : Nat) : Int)) 0) rfl (cellK_ok (by simp [cellK]; omega)) ?_ (by simp [trOk, k1, k2]) (by simp) (.clear rfl ⟨_, rfl⟩ ?_ ?_ ?_ rfl ?_)
      · rw [hqc]; rfl
      all_goals try simp only [vw_at hb, tlp_at hb]
      all_goals first | (simp [sameV, trView, offN, trE, rgZ]; done) | (simp [trN, rgZ]; done)
    · refine inn (o' := 22) (r2' := u64m (r2 + u64m (-1))) rfl (cellK_ok (by simp [cellK])) rfl (by simp [trOk, hok]) (by simp) (.quiet rfl (.inl rfl) ?_ ?_ ?_ ?_)
      all_goals try simp only [vw_at hb, tlp_at hb]
      all_goals first | (simp [sameV, trView, offN, trE, rgZ]; done) | (simp [trN, rgZ]; done)
    · refine ⟨_, _, _, LS.out hb (i := ⟨16, 3, 2, 0, 0⟩) (o' := 23) (rg' := [0, r1, r2, r3, r4, r5, r6, 0]) rfl (cellK_ok (by simp [cellK])) rfl rfl, tr_G0 hb _ _ _ _ _ _, ?_, .quiet rfl (.inr (.inl ⟨_, _, rfl⟩)) ?_ ?_ ?_ ?_⟩
      · intro x _ h
        have h : (0 = 15 ∧ _ ∨ 0 = 16) := h
        omega
      · rw [vw_0, vw_at hb]; simp [sameV, trView, offN, v0t]
      · rw [vw_at hb]; simp [trView]
      · rw [vw_0, vw_at hb]; simp [sameV, trView, offN, v0t, trE]
      · have := tlp_0 (rgZ ws 0) (xF ws t) l (j + 1) [0, r1, r2, r3, r4, r5, r6, 0]
        rw [tlp_at hb]
        show _ ≤ 70 * (l.length - (j + 1)) + 1 + 1
        omega
  · have hno : l[l.length]? = none := by simp
    refine ⟨_, _, _, LS.halt rfl, ⟨r1, r2, r3, r4, r5, r6, rfl, .inl ⟨rfl, rfl⟩⟩, fun q hq => ?_, .quiet rfl (.inl rfl) ?_ ?_ ?_ ?_⟩
    · have hq : l[l.length]? = some q := hq
      rw [hno] at hq; cases hq
    · simp [sameV, viewG, hno]
    · simp [viewG, hno, v0t]
    · simp [viewG, hno]
    · simp [trLp]

end Go.Mac
