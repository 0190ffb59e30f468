/- Threads that only look: what holds, whoever goes on when. -/
import Derived.Test.YtnkmddcadkcdcaaDoorQRaceL
import Derived.Test.YtnkmddcadkcdcaaDoorGMachB
open Go Go.Proofs Go.Mac
set_option maxRecDepth 100000
namespace Go.Mac

abbrev manyB : List InsZ := [⟨6, 1, 0, 0, 0⟩, ⟨5, 2, 1, 32, 1⟩, ⟨11, 2, 1, 7, 0⟩, ⟨3, 4, 1, 1, 0⟩, ⟨9, 3, 0, 1, 4⟩, ⟨11, 3, 0, 0, 0⟩, ⟨10, 9, 0, 0, 0⟩, ⟨14, 0, 1, 0, 0⟩, ⟨10, 0, 0, 0, 0⟩, ⟨16, 3, 4, 0, 0⟩]
def manyU (_ : Unit) : List InsZ := manyB
abbrev manyL : List (List InsZ) := (List.replicate 1 ()).map manyU

def manyOk (o : Nat) (r1 r2 r3 r4 : Int) : Prop :=
  o < 10 ∧ o ≠ 7 ∧ o ≠ 8 ∧ (1 ≤ o → o ≤ 4 → 0 ≤ r1 ∧ r1 ≤ 16) ∧ (o = 2 → r2 = 0) ∧ (o = 4 → r4 = r1 + 1) ∧ (o = 5 → r3 = 0 ∨ r3 = 1)

def ManyG (g : GZ) : Prop :=
  ∃ r1 r2 r3 r4 : Int, g.y.rg = [0, r1, r2, r3, r4, 0, 0, 0] ∧ (g.y.dn = true ∧ g.j = 1 ∨ g.y.dn = false ∧ (g.j = 0 ∧ manyOk g.y.pc r1 r2 r3 r4 ∨ g.j = 1 ∧ g.y.pc = 0))

/-- Who looks already. -/
def mtk (g : GZ) : Nat := if g.j = 1 ∨ g.y.pc = 5 ∧ rgZ g.y.rg 3 = 1 ∨ g.y.pc = 6 ∨ g.y.pc = 9 then 1 else 0

def mlpN (v : Int) (o : Nat) (r1 r3 : Int) : Nat :=
  match o with
  | 0 => 106
  | 1 => if r1 = v then 105 else 111
  | 2 => if r1 = v then 104 else 110
  | 3 => if r1 = v then 103 else 109
  | 4 => if r1 = v then 102 else 108
  | 5 => if r3 = 0 then 107 else 5
  | 6 => 4
  | _ => 3

def mlp (v : Int) (g : GZ) : Nat := if g.y.dn = true then 0 else if g.j = 0 then mlpN v g.y.pc (rgZ g.y.rg 1) (rgZ g.y.rg 3) else 1

theorem mlp_mono {v w : Int} {d : Nat} (h : w = v ∨ d = 6) (g : GZ) : mlp w g ≤ mlp v g + d := by
  rcases h with rfl | rfl
  · omega
  · unfold mlp
    have : mlpN w g.y.pc (rgZ g.y.rg 1) (rgZ g.y.rg 3) ≤ mlpN v g.y.pc (rgZ g.y.rg 1) (rgZ g.y.rg 3) + 6 := by
      unfold mlpN
      split <;> (repeat' split) <;> omega
    split
    · omega
    · split <;> omega

structure ManyJ (B n : Nat) (gs : Nat → GZ) (v : Int) (m : MZ) : Prop where
  sys : SysW n 1 (fun _ => manyL) gs [v] m
  hn : n ≤ 16
  th : ∀ t, t < n → ManyG (gs t)
  ss : m.ss = []
  v0 : v = rsum n fun t => mtk (gs t)
  pot : m.k + rsum n (fun t => mlp v (gs t)) ≤ B

theorem many_bit {x : Int} (h : 0 ≤ x ∧ x ≤ 16) : bitsZ x 32 1 = 0 := by
  rcases (show x = 0 ∨ x = 1 ∨ x = 2 ∨ x = 3 ∨ x = 4 ∨ x = 5 ∨ x = 6 ∨ x = 7 ∨ x = 8 ∨ x = 9 ∨ x = 10 ∨ x = 11 ∨ x = 12 ∨ x = 13 ∨ x = 14 ∨ x = 15 ∨ x = 16 by omega) with rfl | rfl | rfl | rfl | rfl | rfl | rfl | rfl | rfl | rfl | rfl | rfl | rfl | rfl | rfl | rfl | rfl <;> decide

section
variable {B n : Nat} {v : Int} {gs : Nat → GZ} {m : MZ}

theorem many_upd (h : ManyJ B n gs v m) {t : Nat} (hc : canZ m t = true) (hk : m.k < 20000) {g g' : GZ} (hgt : gs t = g) {v' : Int} {e : EffW} (hl : LS 1 manyL g [v] g' [v'] e) (hT : ManyG g') (hss : effWS t m.ss e = m.ss)
    {d : Nat} (hd : v' = v ∧ d = 0 ∨ d = 6) (hv : v' + mtk g = v + mtk g') (hp : mlp v' g' + 16 * d + 1 ≤ mlp v g) : ∃ gs' v', ManyJ B n gs' v' (stepZ m t).2 := by
  obtain ⟨ht, hdn, hno⟩ := h.sys.can hc
  obtain ⟨hs, e1, e2, e3, e4⟩ := h.sys.ls hc hk hgt hl
  have r1 := rsum_set (n := n) (gs := gs) (g := g) (fun _ g => mtk g) (g' := g') ht hgt
  try dsimp only at r1
  have q1 := h.v0
  have q4 := h.pot
  have hn16 := h.hn
  refine ⟨updG gs t g', v', hs, h.hn, fun s hsn => ?_, by rw [e1, hss]; exact h.ss, by omega, ?_⟩
  · by_cases hst : s = t
    · subst hst; rw [updG_same]; exact hT
    · rw [updG_ne _ _ hst]; exact h.th s hsn
  · rw [e4]
    have hsum := rsum_upd (n := n) (t := t) (g := fun s => mlp v' (updG gs t g' s)) (h := fun s => mlp v (gs s) + d) ht fun s _ hne => by
      rw [updG_ne _ _ hne]
      exact mlp_mono (by omega) _
    try dsimp only at hsum
    rw [updG_same, rsum_plus, hgt] at hsum
    have hnd : n * d ≤ 16 * d := Nat.mul_le_mul_right _ hn16
    omega

theorem many_step (h : ManyJ B n gs v m) {t : Nat} (hc : canZ m t = true) (hk : m.k < 20000) : ∃ gs' v', ManyJ B n gs' v' (stepZ m t).2 := by
  obtain ⟨ht, hd, hno⟩ := h.sys.can hc
  obtain ⟨g, hgt⟩ : ∃ g, gs t = g := ⟨_, rfl⟩
  obtain ⟨r1, r2, r3, r4, hrg, hcase⟩ := h.th t ht
  have hn16 := h.hn
  have hv0 := h.v0
  have hvn : rsum n (fun t => mtk (gs t)) ≤ n * 1 := rsum_const _ _ _ fun s hs => by rw [mtk]; split <;> omega
  rw [hgt] at hd hrg hcase
  obtain ⟨j, o, rg, dn⟩ := g
  dsimp only at hd hrg hcase
  subst hd hrg
  have hb : (List.replicate 1 ())[0]? = some () := rfl
  rcases hcase with ⟨h1, _⟩ | ⟨_, ⟨rfl, ho, h7, h8, k1, k2, k4, k5⟩ | ⟨rfl, rfl⟩⟩
  · cases h1
  · have inn {o' : Nat} {r1' r2' r3' r4' v' : Int} {e : EffW} {i : InsZ} {d : Nat} (hi : manyB[o]? = some i) (hc' : cellK 1 i = true) (hn : nextW i ⟨o, [0, r1, r2, r3, r4, 0, 0, 0], false⟩ [v] = (⟨o', [0, r1', r2', r3', r4', 0, 0, 0], false⟩, [v'], e)) (h' : manyOk o' r1' r2' r3' r4')
        (hss : effWS t m.ss e = m.ss) (hd : v' = v ∧ d = 0 ∨ d = 6) (hv : v' + mtk ⟨0, ⟨o, [0, r1, r2, r3, r4, 0, 0, 0], false⟩⟩ = v + mtk ⟨0, ⟨o', [0, r1', r2', r3', r4', 0, 0, 0], false⟩⟩)
        (hp : mlpN v' o' r1' r3' + 16 * d + 1 ≤ mlpN v o r1 r3) : ∃ gs' v', ManyJ B n gs' v' (stepZ m t).2 :=
      many_upd h hc hk hgt (LS.inn hb hi (cellK_ok hc') hn h'.1) ⟨_, _, _, _, rfl, .inr ⟨rfl, .inl ⟨rfl, h'⟩⟩⟩ hss hd hv hp
    rcases (show o = 0 ∨ o = 1 ∨ o = 2 ∨ o = 3 ∨ o = 4 ∨ o = 5 ∨ o = 6 ∨ o = 9 by omega) with rfl | rfl | rfl | rfl | rfl | rfl | rfl | rfl
    · exact inn (o' := 1) (r1' := v) (d := 0) rfl (by decide) rfl (by simp [manyOk]; omega) rfl (.inl ⟨rfl, rfl⟩) (by simp [mtk]) (by simp [mlpN])
    · have k1 := k1 (by decide) (by decide)
      exact inn (o' := 2) (r2' := bitsZ r1 32 1) (d := 0) rfl (by decide) rfl (by simp [manyOk, many_bit k1]; omega) rfl (.inl ⟨rfl, rfl⟩) (by simp [mtk]) (by simp [mlpN]; (repeat' split) <;> omega)
    · have k1 := k1 (by decide) (by decide)
      obtain rfl := k2 rfl
      exact inn (o' := 3) (d := 0) rfl (by decide) (nx_same' (fun e => absurd (show (0 : Int) = 1 from e) (by decide))) (by simp [manyOk]; omega) rfl (.inl ⟨rfl, rfl⟩) (by simp [mtk]) (by simp [mlpN]; (repeat' split) <;> omega)
    · have k1 := k1 (by decide) (by decide)
      have e : u64m (r1 + u64m 1) = r1 + 1 := wrap_u64 (r1 + 1) (by omega) (by omega)
      exact inn (o' := 4) (r4' := u64m (r1 + u64m 1)) (d := 0) rfl (by decide) rfl ⟨by decide, by decide, by decide, fun _ _ => k1, fun h => absurd h (by decide), fun _ => e, fun h => absurd h (by decide)⟩ rfl (.inl ⟨rfl, rfl⟩) (by simp [mtk]) (by simp [mlpN]; (repeat' split) <;> omega)
    · have k1 := k1 (by decide) (by decide)
      have k4 := k4 rfl
      by_cases hq : v = r1
      · exact inn (o' := 5) (r3' := 1) (v' := r4) (d := 6) rfl (by decide) (nx_swap hq) (by simp [manyOk]) rfl (.inr rfl) (by simp [mtk, rgZ]; omega) (by simp [mlpN, hq])
      · exact inn (o' := 5) (r3' := 0) (v' := v) (d := 0) rfl (by decide) (nx_swap' hq) (by simp [manyOk]) rfl (.inl ⟨rfl, rfl⟩) (by simp [mtk, rgZ]) (by simp [mlpN, show ¬ r1 = v from fun e => hq e.symm])
    · rcases k5 rfl with rfl | rfl
      · exact inn (o' := 0) (d := 0) rfl (by decide) (nx_same rfl) (by simp [manyOk]) rfl (.inl ⟨rfl, rfl⟩) (by simp [mtk, rgZ]) (by simp [mlpN])
      · exact inn (o' := 6) (d := 0) rfl (by decide) (nx_same' (fun e => absurd (show (1 : Int) = 0 from e) (by decide))) (by simp [manyOk]) rfl (.inl ⟨rfl, rfl⟩) (by simp [mtk, rgZ]) (by simp [mlpN])
    · exact inn (o' := 9) (d := 0) rfl (by decide) rfl (by simp [manyOk]) rfl (.inl ⟨rfl, rfl⟩) (by simp [mtk]) (by simp [mlpN])
    · exact many_upd h hc hk hgt (v' := v) (d := 0) (LS.out (o' := 10) (rg' := [0, r1, r2, r3, r4, 0, 0, 0]) hb (i := ⟨16, 3, 4, 0, 0⟩) rfl (cellK_ok (by decide)) rfl rfl) ⟨_, _, _, _, rfl, .inr ⟨rfl, .inr ⟨rfl, rfl⟩⟩⟩ rfl (.inl ⟨rfl, rfl⟩) (by simp [mtk]) (by simp [mlp, mlpN])
  · exact many_upd h hc hk hgt (v' := v) (d := 0) (LS.halt rfl) ⟨_, _, _, _, rfl, .inl ⟨rfl, rfl⟩⟩ rfl (.inl ⟨rfl, rfl⟩) (by simp [mtk]) (by simp [mlp])

def ManyI (B n : Nat) (m : MZ) : Prop := ∃ gs v, ManyJ B n gs v m

theorem ManyI.step (h : ManyI B n m) (t : Int) : ManyI B n (stepZ m t).2 := by
  obtain ⟨gs, v, h⟩ := h
  rcases step_or h.sys.wf t with e | ⟨s, rfl, hc, hk⟩
  · rw [e]; exact ⟨gs, v, h⟩
  · exact many_step h hc hk

theorem ManyI.poke (h : ManyI B n m) (t : Int) : ManyI B n (pokeZ m t) := by
  obtain ⟨gs, v, h⟩ := h
  exact ⟨gs, v, h.sys.poke t, h.hn, h.th, poke_none h.ss t, h.v0, h.pot⟩

end

theorem many_right : rightZ (catP manyL) 1 = true := by decide

theorem many_init {n : Nat} (hn : n ≤ 16) : ManyJ 1696 n (fun _ => ⟨0, th0⟩) 0 (mz0 (List.replicate n (catP manyL)) [0]) := by
  refine ⟨same_sys hn many_right, hn, fun t ht => ⟨0, 0, 0, 0, rfl, .inr ⟨rfl, .inl ⟨rfl, by simp [manyOk, th0]⟩⟩⟩, rfl, ?_, ?_⟩
  · rw [rsum_zero (n := n) (g := fun _ => mtk ⟨0, th0⟩) fun _ _ => rfl]; rfl
  · have h1 : rsum n (fun _ => mlp 0 ⟨0, th0⟩) ≤ n * 106 := rsum_const _ _ _ fun t ht => Nat.le_refl _
    have h2 : n * 106 ≤ 16 * 106 := Nat.mul_le_mul_right _ hn
    show 0 + _ ≤ 1696
    omega

theorem many_moves {n : Nat} (hn : n ≤ 16) (ms : List MoveZ) : ManyI 1696 n (movesZ (mz0 (List.replicate n (catP manyL)) [0]) ms) :=
  moves_inv (P := fun _ m => ManyI 1696 n m) (fun i m t h => h.step t) (fun i m t h => h.poke t) ms 0 _ ⟨_, _, many_init hn⟩

theorem many_fin {n : Nat} (hn : n ≤ 16) (ms : List MoveZ) : allZ (finish (movesZ (mz0 (List.replicate n (catP manyL)) [0]) ms)) = true ∧ (finish (movesZ (mz0 (List.replicate n (catP manyL)) [0]) ms)).ws = [(n : Int)] := by
  have h0 := many_moves hn ms
  have hw : WF (movesZ (mz0 (List.replicate n (catP manyL)) [0]) ms) := by obtain ⟨_, _, h⟩ := h0; exact h.sys.wf
  obtain ⟨⟨gs, v, h1⟩, hno⟩ := fin_stop (P := ManyI 1696 n) (fun m t h => h.step t) (fun m h => by obtain ⟨_, _, h⟩ := h; have := h.pot; omega) h0 hw
  generalize finish (movesZ (mz0 (List.replicate n (catP manyL)) [0]) ms) = z at h1 hno
  refine ⟨all_ofS (h1.sys.all hno h1.ss), ?_⟩
  have hj : ∀ t, t < n → (gs t).j = 1 := fun t ht => by
    obtain ⟨_, _, _, _, _, q | ⟨q, _⟩⟩ := h1.th t ht
    · exact q.2
    · rw [all_done h1.sys h1.ss hno ht] at q; cases q
  have a1 := rsum_le (n := n) (g := fun t => mtk (gs t)) (h := fun _ => 0 + 1) fun s hs => by rw [mtk]; split <;> omega
  have a2 := rsum_le (n := n) (h := fun t => mtk (gs t)) (g := fun _ => 0 + 1) fun s hs => by rw [mtk, if_pos (.inl (hj s hs))]; omega
  rw [rsum_plus, rsum_zero fun _ _ => rfl] at a1 a2
  rw [h1.sys.ws, h1.v0]
  congr 1
  omega

theorem many_awake {n : Nat} (hn : n ≤ 16) (ms : List MoveZ) (t : Int) : cellZ (movesZ (mz0 (List.replicate n (catP manyL)) [0]) ms) t = -1 := by
  obtain ⟨gs, v, h⟩ := many_moves hn ms
  rw [cellZ, h.ss]
  rfl

end Go.Mac
