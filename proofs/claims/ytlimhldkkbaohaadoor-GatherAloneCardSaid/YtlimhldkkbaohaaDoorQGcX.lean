/- Threads that ask a phaser: what a step of one comes to. -/
import Derived.Test.YtlimhldkkbaohaaDoorQGcY
open Go Go.Proofs Go.Mac
set_option maxRecDepth 100000
namespace Go.Mac

def bodyG (c : CallZ) : List InsZ := gathI 0 c
def arrM (c : CallZ) : Int := if c.w = 8 then -65537 else -1

def gOk (c : CallZ) (v : Int) (o : Nat) (r1 r2 r3 r4 : Int) : Prop :=
  if c.w = 6 then regOk c.n v o r1 r2 r3 r4
  else if c.w = 10 then o ≤ 10 ∧ (1 ≤ o → awOk v (o - 1) r1 r2 r3 r4)
  else if c.w = 11 then clsOk v o r1 r2 r3 r4
  else if c.w = 9 then o ≤ 38 ∧ (o ≤ 28 → arrOk (-1) v o r1 r2 r3 r4) ∧ (29 ≤ o → awOk v (o - 29) r1 r2 r3 r4)
  else o ≤ 30 ∧ (o ≤ 28 → arrOk (arrM c) v o r1 r2 r3 r4)

def gW (c : CallZ) (o : Nat) (r2 r3 : Int) : Bool :=
  if c.w = 6 ∨ c.w = 10 then false else if c.w = 11 then clsW o r2 r3 else decide (o ≤ 28) && arrW o r2 r3

def gL (c : CallZ) (v : Int) (o : Nat) (r1 r3 : Int) : Nat :=
  if c.w = 6 then regL v o r1 r3
  else if c.w = 10 then (if o = 0 then 30 else awL v (o - 1) r1 r3)
  else if c.w = 11 then clsL v o r1 r3
  else if o ≤ 28 then arrL v o r1 r3
  else if c.w = 9 then awL v (o - 29) r1 r3
  else if o = 29 then 2 else 1

theorem gL_mono (c : CallZ) (v w : Int) (o : Nat) (r1 r3 : Int) : gL c w o r1 r3 ≤ gL c v o r1 r3 + 20 := by
  have a1 := regL_mono v w o r1 r3
  have a2 := awL_mono v w (o - 1) r1 r3
  have a3 := clsL_mono v w o r1 r3
  have a4 := arrL_mono v w o r1 r3
  have a5 := awL_mono v w (o - 29) r1 r3
  unfold gL
  repeat' split
  all_goals omega

theorem gL_0 (c : CallZ) (v r1 r3 : Int) : gL c v 0 r1 r3 ≤ 265 := by
  unfold gL
  repeat' split
  all_goals simp [regL, clsL, arrL, awL] <;> omega

theorem gOk_0 {c : CallZ} (v : Int) (r1 r2 r3 r4 : Int) : gOk c v 0 r1 r2 r3 r4 := by
  unfold gOk
  repeat' split
  all_goals simp [regOk, clsOk, arrOk, awOk, ovOk]

def GcG (l : List CallZ) (v : Int) (g : GZ) : Prop :=
  ∃ r1 r2 r3 r4 r5 : Int, g.y.rg = [0, r1, r2, r3, r4, r5, 0, 0] ∧ (g.y.dn = true ∧ g.j = l.length ∨ g.y.dn = false ∧ ((∃ c, l[g.j]? = some c ∧ gOk c v g.y.pc r1 r2 r3 r4) ∨ g.j = l.length ∧ g.y.pc = 0))

def gwG (l : List CallZ) (g : GZ) : Bool :=
  match l[g.j]? with
  | some c => gW c g.y.pc (rgZ g.y.rg 2) (rgZ g.y.rg 3)
  | none => false
def glN (v : Int) (c : Option CallZ) (o : Nat) (r1 r3 : Int) : Nat :=
  match c with
  | some c => gL c v o r1 r3
  | none => 0
def glG (v : Int) (l : List CallZ) (g : GZ) : Nat := if g.y.dn = true then 0 else 290 * (l.length - (g.j + 1)) + glN v l[g.j]? g.y.pc (rgZ g.y.rg 1) (rgZ g.y.rg 3) + 1

theorem gw_at {l : List CallZ} {j : Nat} {c : CallZ} (h : l[j]? = some c) (o : Nat) (r : List Int) (d : Bool) : gwG l ⟨j, ⟨o, r, d⟩⟩ = gW c o (rgZ r 2) (rgZ r 3) := by rw [gwG, h]
theorem gl_at {v : Int} {l : List CallZ} {j : Nat} {c : CallZ} (h : l[j]? = some c) (o : Nat) (r : List Int) : glG v l ⟨j, ⟨o, r, false⟩⟩ = 290 * (l.length - (j + 1)) + gL c v o (rgZ r 1) (rgZ r 3) + 1 := by rw [glG, h]; rfl
theorem gl_0 (v : Int) (l : List CallZ) (j : Nat) (r : List Int) : glG v l ⟨j, ⟨0, r, false⟩⟩ ≤ 290 * (l.length - j) + 1 := by
  cases h : l[j]? with
  | none =>
    rw [glG, h]
    have := List.getElem?_eq_none_iff.1 h
    show 290 * (l.length - (j + 1)) + 0 + 1 ≤ _
    omega
  | some c =>
    have := (List.getElem?_eq_some_iff.1 h).1
    have h0 := gL_0 c v (rgZ r 1) (rgZ r 3)
    rw [gl_at h]
    omega

theorem glG_mono {v w : Int} {d : Nat} (h : w = v ∨ d = 20) (l : List CallZ) (g : GZ) : glG w l g ≤ glG v l g + d := by
  rcases h with rfl | rfl
  · omega
  · unfold glG glN
    split
    · omega
    · split
      · rename_i c _
        have := gL_mono c v w g.y.pc (rgZ g.y.rg 1) (rgZ g.y.rg 3)
        omega
      · omega

inductive GcOut (l : List CallZ) (g : GZ) (v : Int) (g' : GZ) (v' : Int) (e : EffW) : Prop
  | quiet (hv : v' = v) (he : e = .no ∨ (∃ a x, e = .say a x) ∨ ∃ a b, e = .act a 0 b b) (hw : gwG l g = true → gwG l g' = true) (hp : glG v l g' + 1 ≤ glG v l g)
  | sleep (hv : v' = v) (hr : RW v) (he : e = .sleep 0) (hw : gwG l g = true → gwG l g' = true) (hs : (∃ c, l[g'.j]? = some c ∧ (c.w = 10 ∧ g'.y.pc = 8 ∨ c.w = 9 ∧ g'.y.pc = 36)) ∧ g'.y.dn = false) (hp : glG v l g' ≤ glG v l g + 9)
  | wake (hv : v' = v) (he : e = .wake 0 16) (hp : glG v l g' + 71 ≤ glG v l g)
  | swap (hr : RW v) (hv : 0 ≤ v' ∧ v' < 18446744073709551616 ∧ (v' < 9223372036854775808 → RW v')) (he : e = .act 9 0 v v') (hw : 9223372036854775808 ≤ v' → gwG l g' = true) (hp : glG v' l g' + 161 ≤ glG v l g)

def GcS (l : List CallZ) (g : GZ) (v : Int) : Prop := ∃ g' v' e, LS 1 (l.map bodyG) g [v] g' [v'] e ∧ GcG l v' g' ∧ GcOut l g v g' v' e

theorem gc_G0 {l : List CallZ} {j : Nat} {c : CallZ} (hb : l[j]? = some c) (v r1 r2 r3 r4 r5 : Int) : GcG l v ⟨j + 1, ⟨0, [0, r1, r2, r3, r4, r5, 0, 0], false⟩⟩ := by
  have hlt := (List.getElem?_eq_some_iff.1 hb).1
  refine ⟨r1, r2, r3, r4, r5, rfl, .inr ⟨rfl, ?_⟩⟩
  cases h : l[j + 1]? with
  | none => exact .inr ⟨by have := List.getElem?_eq_none_iff.1 h; show j + 1 = _; omega, rfl⟩
  | some c => exact .inl ⟨c, by first | exact h | rfl, gOk_0 ..⟩

theorem gW_0 (c : CallZ) (r2 r3 : Int) : gW c 0 r2 r3 = false := by
  unfold gW
  repeat' split
  all_goals simp [clsW, arrW]

/-- A step of a part of a body. -/
theorem gc_part {l : List CallZ} {j : Nat} {c : CallZ} (hb : l[j]? = some c) {B : List InsZ} {ok : Int → Nat → Int → Int → Int → Int → Prop} {W : Nat → Int → Int → Bool} {L : Int → Nat → Int → Int → Nat} {fin q : Nat} {sl : Bool} (hsl : sl = true → c.w = 10 ∧ q = 1 ∨ c.w = 9 ∧ q = 29)
    (hB : ∀ o i, B[o]? = some i → (bodyG c)[q + o]? = some i) (hok : ∀ v o r1 r2 r3 r4, ok v o r1 r2 r3 r4 → q + o < (bodyG c).length ∧ gOk c v (q + o) r1 r2 r3 r4) (hfin : q + (fin + 1) = (bodyG c).length)
    (hW : ∀ o r2 r3, o ≤ fin → gW c (q + o) r2 r3 = W o r2 r3) (hf : ∀ v o r1 r2 r3 r4, ok v o r1 r2 r3 r4 → o ≤ fin) (hL : ∀ v o r1 r3, gL c v (q + o) r1 r3 = L v o r1 r3) {v : Int} {o : Nat} (hof : o ≤ fin) {r1 r2 r3 r4 r5 : Int} (hs : PStep B ok W L fin sl q v o r1 r2 r3 r4 r5) :
    GcS l ⟨j, ⟨q + o, [0, r1, r2, r3, r4, r5, 0, 0], false⟩⟩ v := by
  obtain ⟨i, o', r1', r2', r3', r4', v', e, hi, hc, hn, hout⟩ := hs
  have hi' := hB o i hi
  cases hout with
  | inn hv he hk hw hp =>
    subst hv
    obtain ⟨h1, h2⟩ := hok _ _ _ _ _ _ hk
    have hf' := hf _ _ _ _ _ _ hk
    refine ⟨_, _, _, LS.inn hb hi' (cellK_ok hc) hn h1, ⟨_, _, _, _, _, rfl, .inr ⟨rfl, .inl ⟨c, hb, h2⟩⟩⟩, .quiet rfl (by rcases he with h | h; exact .inl h; exact .inr (.inr h)) ?_ ?_⟩
    · rw [gw_at hb, gw_at hb, hW _ _ _ hof, hW _ _ _ hf']; exact hw
    · rw [gl_at hb, gl_at hb, hL, hL]
      show _ + L _ o' r1' r3' + 1 + 1 ≤ _ + L _ o r1 r3 + 1
      omega
  | say hv he ho hw hp =>
    subst hv he
    obtain ⟨rfl, rfl⟩ := ho
    refine ⟨_, _, _, LS.out hb hi' (cellK_ok hc) hn hfin, gc_G0 hb _ _ _ _ _ _, .quiet rfl (.inr (.inl ⟨_, _, rfl⟩)) (fun h => ?_) ?_⟩
    · rw [gw_at hb, hW _ _ _ hof] at h
      have hw : W o (rgZ [0, r1, r2, r3, r4, r5, 0, 0] 2) (rgZ [0, r1, r2, r3, r4, r5, 0, 0] 3) = false := hw
      rw [hw] at h; cases h
    · have := gl_0 v' l (j + 1) [0, r1', r2', r3', r4', r5, 0, 0]
      rw [gl_at hb, hL]
      show _ + 1 ≤ _ + L _ o r1 r3 + 1
      omega
  | sleep hz hv hr he hk hw hp =>
    subst hv he
    obtain ⟨hz, rfl⟩ := hz
    have hz := hsl hz
    obtain ⟨h1, h2⟩ := hok _ _ _ _ _ _ hk
    refine ⟨_, _, _, LS.inn hb hi' (cellK_ok hc) hn h1, ⟨_, _, _, _, _, rfl, .inr ⟨rfl, .inl ⟨c, hb, h2⟩⟩⟩, .sleep rfl hr rfl (fun h => ?_) ⟨⟨c, hb, by show c.w = 10 ∧ q + 7 = 8 ∨ c.w = 9 ∧ q + 7 = 36; omega⟩, rfl⟩ ?_⟩
    · rw [gw_at hb, hW _ _ _ hof] at h
      have hw : W o (rgZ [0, r1, r2, r3, r4, r5, 0, 0] 2) (rgZ [0, r1, r2, r3, r4, r5, 0, 0] 3) = false := hw
      rw [hw] at h; cases h
    · rw [gl_at hb, gl_at hb, hL, hL]
      show _ + L _ 7 r1' r3' + 1 ≤ _ + L _ o r1 r3 + 1 + 9
      omega
  | wake hv he hk hp =>
    subst hv he
    obtain ⟨h1, h2⟩ := hok _ _ _ _ _ _ hk
    refine ⟨_, _, _, LS.inn hb hi' (cellK_ok hc) hn h1, ⟨_, _, _, _, _, rfl, .inr ⟨rfl, .inl ⟨c, hb, h2⟩⟩⟩, .wake rfl rfl ?_⟩
    rw [gl_at hb, gl_at hb, hL, hL]
    show _ + L _ o' r1' r3' + 1 + 71 ≤ _ + L _ o r1 r3 + 1
    omega
  | swap hr hv he hk hw hp =>
    subst he
    obtain ⟨h1, h2⟩ := hok _ _ _ _ _ _ hk
    have hf' := hf _ _ _ _ _ _ hk
    refine ⟨_, _, _, LS.inn hb hi' (cellK_ok hc) hn h1, ⟨_, _, _, _, _, rfl, .inr ⟨rfl, .inl ⟨c, hb, h2⟩⟩⟩, .swap hr hv rfl ?_ ?_⟩
    · rw [gw_at hb, hW _ _ _ hf']; exact hw
    · rw [gl_at hb, gl_at hb, hL, hL]
      show _ + L _ o' r1' r3' + 1 + 161 ≤ _ + L _ o r1 r3 + 1
      omega

end Go.Mac
