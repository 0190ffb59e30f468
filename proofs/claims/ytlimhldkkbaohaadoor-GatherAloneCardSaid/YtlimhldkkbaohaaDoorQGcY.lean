/- Threads that ask a phaser: what a step of a registration, of a close, of a wait comes to. -/
import Derived.Test.YtlimhldkkbaohaaDoorQGcZ
open Go Go.Proofs Go.Mac
set_option maxRecDepth 100000
namespace Go.Mac

/-- What a step of a part comes to: where it goes. -/
inductive POut (ok : Int → Nat → Int → Int → Int → Int → Prop) (W : Nat → Int → Int → Bool) (L : Int → Nat → Int → Int → Nat) (fin : Nat) (sl : Bool) (v : Int) (o : Nat) (r1 r2 r3 r4 : Int) (o' : Nat) (r1' r2' r3' r4' v' : Int) (e : EffW) : Prop
  | inn (hv : v' = v) (he : e = .no ∨ ∃ a b, e = .act a 0 b b) (hok : ok v o' r1' r2' r3' r4') (hw : W o r2 r3 = true → W o' r2' r3' = true) (hp : L v o' r1' r3' + 1 ≤ L v o r1 r3)
  | say (hv : v' = v) (he : e = .say 3 (IntKind.i64.wrap r2)) (ho : o' = o + 1 ∧ o = fin) (hw : W o r2 r3 = false) (hp : 1 ≤ L v o r1 r3)
  | sleep (hz : sl = true ∧ o' = 7) (hv : v' = v) (hr : RW v) (he : e = .sleep 0) (hok : ok v o' r1' r2' r3' r4') (hw : W o r2 r3 = false) (hp : L v o' r1' r3' ≤ L v o r1 r3 + 9)
  | wake (hv : v' = v) (he : e = .wake 0 16) (hok : ok v o' r1' r2' r3' r4') (hp : L v o' r1' r3' + 71 ≤ L v o r1 r3)
  | swap (hr : RW v) (hv : 0 ≤ v' ∧ v' < 18446744073709551616 ∧ (v' < 9223372036854775808 → RW v')) (he : e = .act 9 0 v v') (hok : ok v' o' r1' r2' r3' r4') (hw : 9223372036854775808 ≤ v' → W o' r2' r3' = true) (hp : L v' o' r1' r3' + 161 ≤ L v o r1 r3)

def regOk (n v : Int) (o : Nat) (r1 r2 r3 r4 : Int) : Prop :=
  o ≤ 14 ∧ ovOk v o r1 r2 ∧ (3 ≤ o → o ≤ 7 → RW r1) ∧ (o = 4 ∨ o = 5 ∨ o = 6 → r2 = r1 / 65536 % 65536) ∧ (o = 5 → r3 = 65535 - n) ∧ (o = 6 → r2 + n ≤ 65535) ∧ (o = 7 → RW r4) ∧ (o = 8 → r3 = 0 ∨ r3 = 1)
def noW (_ : Nat) (_ _ : Int) : Bool := false
def regL (v : Int) (o : Nat) (r1 r3 : Int) : Nat :=
  if o = 0 then 183 else if o ≤ 6 then 183 - o + pen v r1 else if o = 7 then 165 + pen v r1 else if o = 8 then (if r3 = 0 then 184 else 4) else if o = 9 ∨ o = 11 then 3 else if o = 14 then 1 else 2

def clsOk (v : Int) (o : Nat) (r1 r2 r3 r4 : Int) : Prop :=
  o ≤ 10 ∧ ovOk v o r1 r2 ∧ (o = 3 ∨ o = 4 → RW r1) ∧ (o = 4 → r4 = r1 + 9223372036854775808) ∧ (o = 5 → r3 = 0 ∨ r3 = 1)
def clsW (o : Nat) (_ r3 : Int) : Bool := (o == 5 && r3 == 1) || o == 6
def clsL (v : Int) (o : Nat) (r1 r3 : Int) : Nat :=
  if o = 0 then 255 else if o ≤ 3 then 255 - o + pen v r1 else if o = 4 then 237 + pen v r1 else if o = 5 then (if r3 = 0 then 256 else 76) else if o = 6 then 75 else if o = 7 then 3 else if o = 10 then 1 else 2

def awOk (v : Int) (k : Nat) (r1 r2 _ _ : Int) : Prop := k ≤ 9 ∧ ovOk v k r1 r2 ∧ (3 ≤ k → k ≤ 6 → RW r1)
def awL (v : Int) (k : Nat) (r1 _ : Int) : Nat :=
  if k = 0 then 8 else if k ≤ 4 then 8 - k + pen v r1 else if k = 6 then 3 + pen v r1 else if k = 7 then 9 else if k = 9 then 1 else 2

theorem regL_mono (v w : Int) (o : Nat) (r1 r3 : Int) : regL w o r1 r3 ≤ regL v o r1 r3 + 20 := by
  have := pen_mono v w r1
  unfold regL
  repeat' split
  all_goals omega
theorem clsL_mono (v w : Int) (o : Nat) (r1 r3 : Int) : clsL w o r1 r3 ≤ clsL v o r1 r3 + 20 := by
  have := pen_mono v w r1
  unfold clsL
  repeat' split
  all_goals omega
theorem awL_mono (v w : Int) (o : Nat) (r1 r3 : Int) : awL w o r1 r3 ≤ awL v o r1 r3 + 20 := by
  have := pen_mono v w r1
  unfold awL
  repeat' split
  all_goals omega

def PStep (B : List InsZ) (ok : Int → Nat → Int → Int → Int → Int → Prop) (W : Nat → Int → Int → Bool) (L : Int → Nat → Int → Int → Nat) (fin : Nat) (sl : Bool) (q : Nat) (v : Int) (o : Nat) (r1 r2 r3 r4 r5 : Int) : Prop :=
  ∃ i o' r1' r2' r3' r4' v' e, B[o]? = some i ∧ cellK 1 i = true ∧ nextW i ⟨q + o, [0, r1, r2, r3, r4, r5, 0, 0], false⟩ [v] = (⟨q + o', [0, r1', r2', r3', r4', r5, 0, 0], false⟩, [v'], e) ∧ POut ok W L fin sl v o r1 r2 r3 r4 o' r1' r2' r3' r4' v' e

set_option maxHeartbeats 2000000 in
theorem reg_step {n v : Int} (hn : 1 ≤ n ∧ n ≤ 65535) {o : Nat} {r1 r2 r3 r4 r5 : Int} (hv : WD v v) (hok : regOk n v o r1 r2 r3 r4) : PStep (registerI 0 n) (regOk n) noW regL 14 false 0 v o r1 r2 r3 r4 r5 := by
  have go : ∀ {i : InsZ} {o' : Nat} {r1' r2' r3' r4' v' : Int} {e : EffW}, (registerI 0 n)[o]? = some i → cellK 1 i = true → nextW i ⟨0 + o, [0, r1, r2, r3, r4, r5, 0, 0], false⟩ [v] = (⟨0 + o', [0, r1', r2', r3', r4', r5, 0, 0], false⟩, [v'], e) → POut (regOk n) noW regL 14 false v o r1 r2 r3 r4 o' r1' r2' r3' r4' v' e → PStep (registerI 0 n) (regOk n) noW regL 14 false 0 v o r1 r2 r3 r4 r5 :=
    fun h1 h2 h3 h4 => ⟨_, _, _, _, _, _, _, _, h1, h2, h3, h4⟩
  have ho := hok.1
  rcases (show o = 0 ∨ o = 1 ∨ o = 2 ∨ o = 3 ∨ o = 4 ∨ o = 5 ∨ o = 6 ∨ o = 7 ∨ o = 8 ∨ o = 9 ∨ o = 10 ∨ o = 11 ∨ o = 12 ∨ o = 13 ∨ o = 14 by omega) with rfl | rfl | rfl | rfl | rfl | rfl | rfl | rfl | rfl | rfl | rfl | rfl | rfl | rfl | rfl <;> simp [regOk, ovOk] at hok
  · refine go (o' := 1) (r1' := v) rfl rfl rfl (.inn rfl (.inr ⟨_, _, rfl⟩) ?_ (fun h => by cases h) ?_)
    · simp [regOk, ovOk]; exact hv
    · simp [regL, pen]
  · have hb := gb_over (r := r1) ⟨hok.1, hok.2.1⟩
    refine go (o' := 2) (r2' := bitsZ r1 63 1) rfl rfl rfl (.inn rfl (.inl rfl) ?_ (fun h => by cases h) ?_)
    · rw [hb]; simp [regOk, ovOk]; exact hok
    · simp [regL]; omega
  · obtain ⟨hw, h2⟩ := hok
    by_cases hov : 9223372036854775808 ≤ r1
    · rw [if_pos hov] at h2
      subst h2
      refine go (o' := 11) rfl rfl (nx_same rfl) (.inn rfl (.inl rfl) ?_ (fun h => by cases h) ?_)
      · simp [regOk, ovOk]
      · simp [regL]; omega
    · rw [if_neg hov] at h2
      subst h2
      refine go (o' := 3) rfl rfl (nx_same' (fun e => absurd (show (0 : Int) = 1 from e) (by decide))) (.inn rfl (.inl rfl) ?_ (fun h => by cases h) ?_)
      · simp [regOk, ovOk]; exact hw.2.2.1 (by omega)
      · simp [regL]; omega
  · obtain ⟨a1, a2, a3⟩ := hok
    have hb := gb_part (r := r1) ⟨a1, by omega⟩
    refine go (o' := 4) (r2' := bitsZ r1 16 16) rfl rfl rfl (.inn rfl (.inl rfl) ?_ (fun h => by cases h) ?_)
    · rw [hb]; simp [regOk, ovOk]; exact ⟨a1, a2, a3⟩
    · simp [regL]; omega
  · obtain ⟨hr, h2⟩ := hok
    have e : u64m (65535 - n) = 65535 - n := wrap_u64 _ (by omega) (by omega)
    refine go (o' := 5) (r3' := u64m (65535 - n)) rfl rfl rfl (.inn rfl (.inl rfl) ?_ (fun h => by cases h) ?_)
    · rw [e]; simp [regOk, ovOk]; exact ⟨hr, h2⟩
    · simp [regL]; omega
  · obtain ⟨hr, h2, h3⟩ := hok
    by_cases hl : r3 < r2
    · refine go (o' := 13) rfl rfl (nx_less hl) (.inn rfl (.inl rfl) ?_ (fun h => by cases h) ?_)
      · simp [regOk, ovOk]
      · simp [regL]; omega
    · refine go (o' := 6) rfl rfl (nx_less' hl) (.inn rfl (.inl rfl) ?_ (fun h => by cases h) ?_)
      · simp [regOk, ovOk]; exact ⟨hr, h2, by omega⟩
      · simp [regL]; omega
  · obtain ⟨hr, h2, h6⟩ := hok
    have hr' := hr
    obtain ⟨a1, a2, a3⟩ := hr'
    have e : u64m (r1 + u64m (65537 * n)) = r1 + 65537 * n := by rw [um_add]; omega
    have e6 : (r1 + 65537 * n) / 65536 = r1 / 65536 + n := by omega
    have e7 : (r1 + 65537 * n) % 65536 = r1 % 65536 + n := by omega
    refine go (o' := 7) (r4' := u64m (r1 + u64m (65537 * n))) rfl rfl rfl (.inn rfl (.inl rfl) ?_ (fun h => by cases h) ?_)
    · rw [e]; simp [regOk, ovOk]; exact ⟨hr, by omega, by omega, by rw [e6, e7]; omega⟩
    · simp [regL]; omega
  · obtain ⟨hr, hr4⟩ := hok
    by_cases h1 : v = r1
    · subst h1
      refine go (o' := 8) (r3' := 1) (v' := r4) rfl rfl (nx_swap rfl) (.swap hr ⟨hr4.1, by have := hr4.2.1; omega, fun _ => hr4⟩ rfl ?_ (fun h => by have := hr4.2.1; omega) ?_)
      · simp [regOk, ovOk]
      · simp [regL, pen]
    · have h1' : ¬ r1 = v := fun e => h1 e.symm
      refine go (o' := 8) (r3' := 0) (v' := v) rfl rfl (nx_swap' h1) (.inn rfl (.inr ⟨_, _, rfl⟩) ?_ (fun h => by cases h) ?_)
      · simp [regOk, ovOk]
      · simp [regL, pen, h1']
  · rcases hok with rfl | rfl
    · refine go (o' := 0) rfl rfl (nx_same rfl) (.inn rfl (.inl rfl) ?_ (fun h => by cases h) ?_)
      · simp [regOk, ovOk]
      · simp [regL]
    · refine go (o' := 9) rfl rfl (nx_same' (fun e => absurd (show (1 : Int) = 0 from e) (by decide))) (.inn rfl (.inl rfl) ?_ (fun h => by cases h) ?_)
      · simp [regOk, ovOk]
      · simp [regL]
  · refine go (o' := 10) (r2' := bitsZ r1 32 31) rfl rfl rfl (.inn rfl (.inl rfl) ?_ (fun h => by cases h) ?_)
    · simp [regOk, ovOk]
    · simp [regL]
  · refine go (o' := 14) rfl rfl rfl (.inn rfl (.inl rfl) ?_ (fun h => by cases h) ?_)
    · simp [regOk, ovOk]
    · simp [regL]
  · refine go (o' := 12) (r2' := u64m (-1)) rfl rfl rfl (.inn rfl (.inl rfl) ?_ (fun h => by cases h) ?_)
    · simp [regOk, ovOk]
    · simp [regL]
  · refine go (o' := 14) rfl rfl rfl (.inn rfl (.inl rfl) ?_ (fun h => by cases h) ?_)
    · simp [regOk, ovOk]
    · simp [regL]
  · refine go (o' := 14) (r2' := u64m (-3)) rfl rfl rfl (.inn rfl (.inl rfl) ?_ (fun h => by cases h) ?_)
    · simp [regOk, ovOk]
    · simp [regL]
  · exact go (o' := 15) rfl rfl rfl (.say rfl rfl ⟨rfl, rfl⟩ rfl (by simp [regL]))

set_option maxHeartbeats 2000000 in
theorem cls_step {v : Int} {o : Nat} {r1 r2 r3 r4 r5 : Int} (hv : WD v v) (hok : clsOk v o r1 r2 r3 r4) : PStep (closesI 0) clsOk clsW clsL 10 false 0 v o r1 r2 r3 r4 r5 := by
  have go : ∀ {i : InsZ} {o' : Nat} {r1' r2' r3' r4' v' : Int} {e : EffW}, (closesI 0)[o]? = some i → cellK 1 i = true → nextW i ⟨0 + o, [0, r1, r2, r3, r4, r5, 0, 0], false⟩ [v] = (⟨0 + o', [0, r1', r2', r3', r4', r5, 0, 0], false⟩, [v'], e) → POut clsOk clsW clsL 10 false v o r1 r2 r3 r4 o' r1' r2' r3' r4' v' e → PStep (closesI 0) clsOk clsW clsL 10 false 0 v o r1 r2 r3 r4 r5 :=
    fun h1 h2 h3 h4 => ⟨_, _, _, _, _, _, _, _, h1, h2, h3, h4⟩
  have ho := hok.1
  rcases (show o = 0 ∨ o = 1 ∨ o = 2 ∨ o = 3 ∨ o = 4 ∨ o = 5 ∨ o = 6 ∨ o = 7 ∨ o = 8 ∨ o = 9 ∨ o = 10 by omega) with rfl | rfl | rfl | rfl | rfl | rfl | rfl | rfl | rfl | rfl | rfl <;> simp [clsOk, ovOk] at hok
  · refine go (o' := 1) (r1' := v) rfl rfl rfl (.inn rfl (.inr ⟨_, _, rfl⟩) ?_ ?_ ?_)
    · simp [clsOk, ovOk]; exact hv
    · simp [clsW]
    · simp [clsL, pen]
  · have hb := gb_over (r := r1) ⟨hok.1, hok.2.1⟩
    refine go (o' := 2) (r2' := bitsZ r1 63 1) rfl rfl rfl (.inn rfl (.inl rfl) ?_ ?_ ?_)
    · rw [hb]; simp [clsOk, ovOk]; exact hok
    · simp [clsW]
    · simp [clsL]; omega
  · obtain ⟨hw, h2⟩ := hok
    by_cases hov : 9223372036854775808 ≤ r1
    · rw [if_pos hov] at h2
      subst h2
      refine go (o' := 9) rfl rfl (nx_same rfl) (.inn rfl (.inl rfl) ?_ ?_ ?_)
      · simp [clsOk, ovOk]
      · simp [clsW]
      · simp [clsL]; omega
    · rw [if_neg hov] at h2
      subst h2
      refine go (o' := 3) rfl rfl (nx_same' (fun e => absurd (show (0 : Int) = 1 from e) (by decide))) (.inn rfl (.inl rfl) ?_ ?_ ?_)
      · simp [clsOk, ovOk]; exact hw.2.2.1 (by omega)
      · simp [clsW]
      · simp [clsL]; omega
  · have hr' := hok
    obtain ⟨a1, a2, a3⟩ := hr'
    have e : u64m (r1 + u64m (-9223372036854775808)) = r1 + 9223372036854775808 := by rw [um_add]; omega
    refine go (o' := 4) (r4' := u64m (r1 + u64m (-9223372036854775808))) rfl rfl rfl (.inn rfl (.inl rfl) ?_ ?_ ?_)
    · rw [e]; simp [clsOk, ovOk]; exact hok
    · simp [clsW]
    · simp [clsL]; omega
  · obtain ⟨hr, h4⟩ := hok
    have hr' := hr
    obtain ⟨a1, a2, a3⟩ := hr'
    by_cases h1 : v = r1
    · subst h1
      refine go (o' := 5) (r3' := 1) (v' := r4) rfl rfl (nx_swap rfl) (.swap hr ⟨by omega, by omega, fun _ => by omega⟩ rfl ?_ (fun _ => ?_) ?_)
      · simp [clsOk, ovOk]
      · simp [clsW]
      · simp [clsL, pen]
    · have h1' : ¬ r1 = v := fun e => h1 e.symm
      refine go (o' := 5) (r3' := 0) (v' := v) rfl rfl (nx_swap' h1) (.inn rfl (.inr ⟨_, _, rfl⟩) ?_ ?_ ?_)
      · simp [clsOk, ovOk]
      · simp [clsW]
      · simp [clsL, pen, h1']
  · rcases hok with rfl | rfl
    · refine go (o' := 0) rfl rfl (nx_same rfl) (.inn rfl (.inl rfl) ?_ ?_ ?_)
      · simp [clsOk, ovOk]
      · simp [clsW]
      · simp [clsL]
    · refine go (o' := 6) rfl rfl (nx_same' (fun e => absurd (show (1 : Int) = 0 from e) (by decide))) (.inn rfl (.inl rfl) ?_ ?_ ?_)
      · simp [clsOk, ovOk]
      · simp [clsW]
      · simp [clsL]
  · refine go (o' := 7) rfl rfl rfl (.wake rfl rfl ?_ ?_)
    · simp [clsOk, ovOk]
    · simp [clsL]
  · refine go (o' := 8) (r2' := u64m 0) rfl rfl rfl (.inn rfl (.inl rfl) ?_ ?_ ?_)
    · simp [clsOk, ovOk]
    · simp [clsW]
    · simp [clsL]
  · refine go (o' := 10) rfl rfl rfl (.inn rfl (.inl rfl) ?_ ?_ ?_)
    · simp [clsOk, ovOk]
    · simp [clsW]
    · simp [clsL]
  · refine go (o' := 10) (r2' := u64m (-1)) rfl rfl rfl (.inn rfl (.inl rfl) ?_ ?_ ?_)
    · simp [clsOk, ovOk]
    · simp [clsW]
    · simp [clsL]
  · exact go (o' := 11) rfl rfl rfl (.say rfl rfl ⟨rfl, rfl⟩ rfl (by simp [clsL]))

set_option maxHeartbeats 2000000 in
theorem aw_step {v : Int} (q : Nat) {o : Nat} {r1 r2 r3 r4 r5 : Int} (hv : WD v v) (hok : awOk v o r1 r2 r3 r4) : PStep (awaitI q) awOk noW awL 9 true q v o r1 r2 r3 r4 r5 := by
  have go : ∀ {i : InsZ} {o' : Nat} {r1' r2' r3' r4' v' : Int} {e : EffW}, (awaitI q)[o]? = some i → cellK 1 i = true → nextW i ⟨q + o, [0, r1, r2, r3, r4, r5, 0, 0], false⟩ [v] = (⟨q + o', [0, r1', r2', r3', r4', r5, 0, 0], false⟩, [v'], e) → POut awOk noW awL 9 true v o r1 r2 r3 r4 o' r1' r2' r3' r4' v' e → PStep (awaitI q) awOk noW awL 9 true q v o r1 r2 r3 r4 r5 :=
    fun h1 h2 h3 h4 => ⟨_, _, _, _, _, _, _, _, h1, h2, h3, h4⟩
  have ho := hok.1
  have t8 : ((q : Int) + 8).toNat = q + 8 := by omega
  have t6 : ((q : Int) + 6).toNat = q + 6 := by omega
  have t9 : ((q : Int) + 9).toNat = q + 9 := by omega
  have c8 : cellK 1 ⟨11, 2, 1, (q : Int) + 8, 0⟩ = true := by simp [cellK]; omega
  have c6 : cellK 1 ⟨13, 2, 5, (q : Int) + 6, 0⟩ = true := by simp [cellK]; omega
  have c9 : cellK 1 ⟨10, (q : Int) + 9, 0, 0, 0⟩ = true := by simp [cellK]; omega
  have c0 : cellK 1 ⟨10, (q : Int), 0, 0, 0⟩ = true := by simp [cellK]
  rcases (show o = 0 ∨ o = 1 ∨ o = 2 ∨ o = 3 ∨ o = 4 ∨ o = 5 ∨ o = 6 ∨ o = 7 ∨ o = 8 ∨ o = 9 by omega) with rfl | rfl | rfl | rfl | rfl | rfl | rfl | rfl | rfl | rfl <;> simp [awOk, ovOk] at hok
  · refine go (o' := 1) (r1' := v) rfl rfl rfl (.inn rfl (.inr ⟨_, _, rfl⟩) ?_ (fun h => by cases h) ?_)
    · simp [awOk, ovOk]; exact hv
    · simp [awL, pen]
  · have hb := gb_over (r := r1) ⟨hok.1, hok.2.1⟩
    refine go (o' := 2) (r2' := bitsZ r1 63 1) rfl rfl rfl (.inn rfl (.inl rfl) ?_ (fun h => by cases h) ?_)
    · rw [hb]; simp [awOk, ovOk]; exact hok
    · simp [awL]; omega
  · obtain ⟨hw, h2⟩ := hok
    by_cases hov : 9223372036854775808 ≤ r1
    · rw [if_pos hov] at h2
      subst h2
      refine go (o' := 8) rfl c8 ((nx_same rfl).trans (by rw [t8])) (.inn rfl (.inl rfl) ?_ (fun h => by cases h) ?_)
      · simp [awOk, ovOk]
      · simp [awL]; omega
    · rw [if_neg hov] at h2
      subst h2
      refine go (o' := 3) rfl c8 (nx_same' (fun e => absurd (show (0 : Int) = 1 from e) (by decide))) (.inn rfl (.inl rfl) ?_ (fun h => by cases h) ?_)
      · simp [awOk, ovOk]; exact hw.2.2.1 (by omega)
      · simp [awL]; omega
  · refine go (o' := 4) (r2' := bitsZ r1 32 31) rfl rfl rfl (.inn rfl (.inl rfl) ?_ (fun h => by cases h) ?_)
    · simp [awOk, ovOk]; exact hok
    · simp [awL]; omega
  · by_cases h1 : r2 = r5
    · refine go (o' := 6) rfl c6 ((nx_equal (rg := [0, r1, r2, r3, r4, r5, 0, 0]) (a := 2) (b := 5) h1).trans (by rw [t6])) (.inn rfl (.inl rfl) ?_ (fun h => by cases h) ?_)
      · simp [awOk, ovOk]; exact hok
      · simp [awL]; omega
    · refine go (o' := 5) rfl c6 (nx_equal' (rg := [0, r1, r2, r3, r4, r5, 0, 0]) (a := 2) (b := 5) h1) (.inn rfl (.inl rfl) ?_ (fun h => by cases h) ?_)
      · simp [awOk, ovOk]; exact hok
      · simp [awL]; omega
  · refine go (o' := 9) rfl c9 (by show ((⟨((q : Int) + 9).toNat, [0, r1, r2, r3, r4, r5, 0, 0], false⟩ : ThZ), [v], EffW.no) = _; rw [t9]) (.inn rfl (.inl rfl) ?_ (fun h => by cases h) ?_)
    · simp [awOk, ovOk]
    · simp [awL]
  · by_cases h1 : v = r1
    · subst h1
      refine go (o' := 7) rfl rfl (nx_wait rfl) (.sleep ⟨rfl, rfl⟩ rfl hok rfl ?_ rfl ?_)
      · simp [awOk, ovOk]
      · simp [awL, pen]
    · have h1' : ¬ r1 = v := fun e => h1 e.symm
      refine go (o' := 7) rfl rfl (nx_wait' h1) (.inn rfl (.inl rfl) ?_ (fun h => by cases h) ?_)
      · simp [awOk, ovOk]
      · simp [awL, pen, h1']
  · refine go (o' := 0) rfl c0 (by show ((⟨((q : Int)).toNat, [0, r1, r2, r3, r4, r5, 0, 0], false⟩ : ThZ), [v], EffW.no) = _; rw [Int.toNat_natCast]; rfl) (.inn rfl (.inl rfl) ?_ (fun h => by cases h) ?_)
    · simp [awOk, ovOk]
    · simp [awL]
  · refine go (o' := 9) (r2' := u64m (-1)) rfl rfl rfl (.inn rfl (.inl rfl) ?_ (fun h => by cases h) ?_)
    · simp [awOk, ovOk]
    · simp [awL]
  · exact go (o' := 10) rfl rfl rfl (.say rfl rfl ⟨rfl, rfl⟩ rfl (by simp [awL]))

end Go.Mac
