/- Texts that belong together; the first of them: Threads that ask a phaser: words, facts of a thread's place, what is left to do. -/
import Derived.Test.YtlimhldkkbaohaaDoorGWay
import Derived.Test.YtlimhldkkbaohaaDoorQGather
import Derived.Test.YtlimhldkkbaohaaDoorGSemaG
import Derived.Test.YtlimhldkkbaohaaDoorQGcV
import Derived.Test.YtlimhldkkbaohaaDoorGLinB

/- Threads that ask a phaser: words, facts of a thread's place, what is left to do. -/
section
open Go Go.Proofs Go.Mac
set_option maxRecDepth 100000
namespace Go.Mac

/-- What holds at the places that look whether it is over. -/
def ovOk (v : Int) (o : Nat) (r1 r2 : Int) : Prop := (o = 1 ∨ o = 2 → WD v r1) ∧ (o = 2 → r2 = if 9223372036854775808 ≤ r1 then 1 else 0)

/-- Of an arrival: places up to the swap, and the swap's fate. -/
def arrOk (more v : Int) (o : Nat) (r1 r2 r3 r4 : Int) : Prop :=
  ovOk v o r1 r2 ∧ (3 ≤ o → o ≤ 18 → RW r1) ∧ (4 ≤ o → o ≤ 18 → r2 = r1 % 65536) ∧ (5 ≤ o → o ≤ 17 → r2 ≠ 0) ∧ (o = 6 ∨ o = 7 ∨ o = 8 ∨ o = 9 ∨ o = 10 → r4 = r1 + more) ∧ (o = 7 → r2 ≠ 1) ∧ (8 ≤ o → o ≤ 17 → r2 = 1) ∧
    (o = 9 ∨ o = 10 → r3 = r4 / 65536 % 65536) ∧ (o = 10 → r3 ≠ 0) ∧ (11 ≤ o → o ≤ 16 → RW r4) ∧ (o = 11 ∨ o = 12 ∨ o = 13 ∨ o = 15 → r4 / 4294967296 % 2147483648 = r1 / 4294967296 % 2147483648 ∧ r4 % 65536 = r4 / 65536 % 65536) ∧ (o = 12 ∨ o = 13 ∨ o = 15 → r3 = r1 / 4294967296 % 2147483648) ∧ (o = 13 → r3 ≠ 2147483647) ∧ (o = 15 → r3 = 2147483647) ∧ (o = 17 → RW r4) ∧
    (o = 18 → 0 ≤ r4 ∧ r4 < 18446744073709551616 ∧ (r4 < 9223372036854775808 → RW r4) ∧ (9223372036854775808 ≤ r4 → r2 = 1)) ∧ (o = 19 → r3 = 0 ∨ r3 = 1) ∧ (o = 23 → r2 = 1)

/-- Who is about to wake, on an arrival. -/
def arrW (o : Nat) (r2 r3 : Int) : Bool := (o == 19 && r3 == 1 && r2 == 1) || (o == 20 && r2 == 1) || (o == 21 && r2 == 1) || o == 23

def pen (v r1 : Int) : Nat := if r1 = v then 0 else 20

def arrL (v : Int) (o : Nat) (r1 r3 : Int) : Nat :=
  if o = 0 then 265 else if o ≤ 17 then 265 - o + pen v r1 else if o = 18 then 247 + pen v r1 else if o = 19 then (if r3 = 0 then 266 else 86) else if o = 20 then 85 else if o = 21 then 84 else if o = 22 then 83 else if o = 23 then 82 else if o = 24 then 10 else if o = 25 ∨ o = 27 then 4 else 3

theorem pen_mono (v w r1 : Int) : pen w r1 ≤ pen v r1 + 20 := by unfold pen; split <;> split <;> omega

theorem arrL_mono (v w : Int) (o : Nat) (r1 r3 : Int) : arrL w o r1 r3 ≤ arrL v o r1 r3 + 20 := by
  have := pen_mono v w r1
  unfold arrL
  repeat' split
  all_goals omega

/-- What a step of an arrival comes to: where it goes. -/
inductive ArrOut (more fail v : Int) (o : Nat) (r1 r2 r3 r4 r5 : Int) (o' : Nat) (r1' r2' r3' r4' r5' v' : Int) (e : EffW) : Prop
  | inn (hv : v' = v) (he : e = .no ∨ ∃ a b, e = .act a 0 b b) (ho : o' ≤ 28) (hok : arrOk more v o' r1' r2' r3' r4') (hw : arrW o r2 r3 = true → arrW o' r2' r3' = true) (hp : arrL v o' r1' r3' + 1 ≤ arrL v o r1 r3)
  | out (hv : v' = v) (he : e = .no) (ho : o' = 29 ∨ o' = fail.toNat) (hw : arrW o r2 r3 = false) (hp : 3 ≤ arrL v o r1 r3) (hq : o' = 29 → 10 ≤ arrL v o r1 r3)
  | wake (hv : v' = v) (he : e = .wake 0 16) (ho : o = 23 ∧ o' = 24)
  | swap (hr : RW v) (hv : 0 ≤ v' ∧ v' < 18446744073709551616 ∧ (v' < 9223372036854775808 → RW v')) (he : e = .act 9 0 v v') (ho : o = 18 ∧ o' = 19 ∧ r3' = 1 ∧ r1 = v) (hok : arrOk more v' o' r1' r2' r3' r4') (hw : 9223372036854775808 ≤ v' → arrW o' r2' r3' = true)

set_option maxHeartbeats 4000000 in
theorem arr_step {more fail v : Int} (hm : more = -1 ∨ more = -65537) (hf : 30 ≤ fail) {o : Nat} (ho : o ≤ 28) {r1 r2 r3 r4 r5 : Int} (hv : WD v v) (hok : arrOk more v o r1 r2 r3 r4) :
    ∃ i o' r1' r2' r3' r4' r5' v' e, (arriveI 0 more fail)[o]? = some i ∧ cellK 1 i = true ∧ nextW i ⟨o, [0, r1, r2, r3, r4, r5, 0, 0], false⟩ [v] = (⟨o', [0, r1', r2', r3', r4', r5', 0, 0], false⟩, [v'], e) ∧ ArrOut more fail v o r1 r2 r3 r4 r5 o' r1' r2' r3' r4' r5' v' e := by
  have go : ∀ {i : InsZ} {o' : Nat} {r1' r2' r3' r4' r5' v' : Int} {e : EffW}, (arriveI 0 more fail)[o]? = some i → cellK 1 i = true → nextW i ⟨o, [0, r1, r2, r3, r4, r5, 0, 0], false⟩ [v] = (⟨o', [0, r1', r2', r3', r4', r5', 0, 0], false⟩, [v'], e) → ArrOut more fail v o r1 r2 r3 r4 r5 o' r1' r2' r3' r4' r5' v' e →
      ∃ i o' r1' r2' r3' r4' r5' v' e, (arriveI 0 more fail)[o]? = some i ∧ cellK 1 i = true ∧ nextW i ⟨o, [0, r1, r2, r3, r4, r5, 0, 0], false⟩ [v] = (⟨o', [0, r1', r2', r3', r4', r5', 0, 0], false⟩, [v'], e) ∧ ArrOut more fail v o r1 r2 r3 r4 r5 o' r1' r2' r3' r4' r5' v' e := fun h1 h2 h3 h4 => ⟨_, _, _, _, _, _, _, _, _, h1, h2, h3, h4⟩
  rcases (show o = 0 ∨ o = 1 ∨ o = 2 ∨ o = 3 ∨ o = 4 ∨ o = 5 ∨ o = 6 ∨ o = 7 ∨ o = 8 ∨ o = 9 ∨ o = 10 ∨ o = 11 ∨ o = 12 ∨ o = 13 ∨ o = 14 ∨ o = 15 ∨ o = 16 ∨ o = 17 ∨ o = 18 ∨ o = 19 ∨ o = 20 ∨ o = 21 ∨ o = 22 ∨ o = 23 ∨ o = 24 ∨ o = 25 ∨ o = 26 ∨ o = 27 ∨ o = 28 by omega) with rfl | rfl | rfl | rfl | rfl | rfl | rfl | rfl | rfl | rfl | rfl | rfl | rfl | rfl | rfl | rfl | rfl | rfl | rfl | rfl | rfl | rfl | rfl | rfl | rfl | rfl | rfl | rfl | rfl <;> simp [arrOk, ovOk] at hok
  · refine go (o' := 1) (r1' := v) rfl rfl rfl (.inn rfl (.inr ⟨_, _, rfl⟩) (by decide) ?_ ?_ ?_)
    · simp [arrOk, ovOk]; exact hv
    · simp [arrW]
    · simp [arrL, pen]
  · have hb := gb_over (r := r1) ⟨hok.1, hok.2.1⟩
    refine go (o' := 2) (r2' := bitsZ r1 63 1) rfl rfl rfl (.inn rfl (.inl rfl) (by decide) ?_ ?_ ?_)
    · rw [hb]; simp [arrOk, ovOk]; exact hok
    · simp [arrW]
    · simp [arrL]; omega
  · obtain ⟨hw, h2⟩ := hok
    by_cases hov : 9223372036854775808 ≤ r1
    · rw [if_pos hov] at h2
      subst h2
      refine go (o' := 25) rfl rfl (nx_same rfl) (.inn rfl (.inl rfl) (by decide) ?_ ?_ ?_)
      · simp [arrOk, ovOk]
      · simp [arrW]
      · simp [arrL]; omega
    · rw [if_neg hov] at h2
      subst h2
      refine go (o' := 3) rfl rfl (nx_same' (fun e => absurd (show (0 : Int) = 1 from e) (by decide))) (.inn rfl (.inl rfl) (by decide) ?_ ?_ ?_)
      · simp [arrOk, ovOk]; exact hw.2.2.1 (by omega)
      · simp [arrW]
      · simp [arrL]; omega
  · obtain ⟨a1, a2, a3⟩ := hok
    have hb := gb_wait (r := r1) ⟨a1, by omega⟩
    refine go (o' := 4) (r2' := bitsZ r1 0 16) rfl rfl rfl (.inn rfl (.inl rfl) (by decide) ?_ ?_ ?_)
    · rw [hb]; simp [arrOk, ovOk]; exact ⟨a1, a2, a3⟩
    · simp [arrW]
    · simp [arrL]; omega
  · obtain ⟨hr, h2⟩ := hok
    by_cases h0 : r2 = 0
    · refine go (o' := 27) rfl rfl (nx_same h0) (.inn rfl (.inl rfl) (by decide) ?_ ?_ ?_)
      · simp [arrOk, ovOk]
      · simp [arrW]
      · simp [arrL]; omega
    · refine go (o' := 5) rfl rfl (nx_same' h0) (.inn rfl (.inl rfl) (by decide) ?_ ?_ ?_)
      · simp [arrOk, ovOk]; exact ⟨hr, h2, h0⟩
      · simp [arrW]
      · simp [arrL]; omega
  · obtain ⟨hr, h2, h0⟩ := hok
    have hr' := hr
    obtain ⟨a1, a2, a3⟩ := hr'
    have e : u64m (r1 + u64m more) = r1 + more := by rw [um_add]; rcases hm with rfl | rfl <;> omega
    refine go (o' := 6) (r4' := u64m (r1 + u64m more)) rfl rfl rfl (.inn rfl (.inl rfl) (by decide) ?_ ?_ ?_)
    · rw [e]; simp [arrOk, ovOk]; exact ⟨hr, h2, h0⟩
    · simp [arrW]
    · simp [arrL]; omega
  · obtain ⟨hr, h2, h0, h4⟩ := hok
    by_cases h1 : r2 = 1
    · refine go (o' := 8) rfl rfl (nx_same h1) (.inn rfl (.inl rfl) (by decide) ?_ ?_ ?_)
      · simp [arrOk, ovOk]; exact ⟨hr, h2, h0, h4, h1⟩
      · simp [arrW]
      · simp [arrL]; omega
    · refine go (o' := 7) rfl rfl (nx_same' h1) (.inn rfl (.inl rfl) (by decide) ?_ ?_ ?_)
      · simp [arrOk, ovOk]; exact ⟨hr, h2, h0, h4, h1⟩
      · simp [arrW]
      · simp [arrL]; omega
  · obtain ⟨hr, h2, h0, h4, h1⟩ := hok
    refine go (o' := 18) rfl rfl rfl (.inn rfl (.inl rfl) (by decide) ?_ ?_ ?_)
    · simp [arrOk, ovOk]
      have hr' := hr
      obtain ⟨a1, a2, a3⟩ := hr'
      refine ⟨hr, h2, ?_, ?_, fun _ => ⟨?_, ?_, ?_⟩, ?_⟩ <;> (try intro) <;> rcases hm with rfl | rfl <;> omega
    · simp [arrW]
    · simp [arrL, pen]; omega
  · obtain ⟨hr, h2, h0, h4, h1⟩ := hok
    have hr' := hr
    obtain ⟨a1, a2, a3⟩ := hr'
    have hb := gb_part (r := r4) (by rcases hm with rfl | rfl <;> omega)
    refine go (o' := 9) (r3' := bitsZ r4 16 16) rfl rfl rfl (.inn rfl (.inl rfl) (by decide) ?_ ?_ ?_)
    · rw [hb]; simp [arrOk, ovOk]; exact ⟨hr, h2, h0, h4, h1⟩
    · simp [arrW]
    · simp [arrL]; omega
  · obtain ⟨hr, h2, h0, h4, h1, h3⟩ := hok
    by_cases hz : r3 = 0
    · refine go (o' := 17) rfl rfl (nx_same hz) (.inn rfl (.inl rfl) (by decide) ?_ ?_ ?_)
      · simp [arrOk, ovOk]
        have hr' := hr
        obtain ⟨a1, a2, a3⟩ := hr'
        exact ⟨hr, h2, h0, h1, by rcases hm with rfl | rfl <;> omega, by rcases hm with rfl | rfl <;> omega, by rcases hm with rfl | rfl <;> omega⟩
      · simp [arrW]
      · simp [arrL]; omega
    · refine go (o' := 10) rfl rfl (nx_same' hz) (.inn rfl (.inl rfl) (by decide) ?_ ?_ ?_)
      · simp [arrOk, ovOk]; exact ⟨hr, h2, h0, h4, h1, h3, hz⟩
      · simp [arrW]
      · simp [arrL]; omega
  · obtain ⟨hr, h2, h0, h4, h1, h3, hz⟩ := hok
    have hr' := hr
    obtain ⟨a1, a2, a3⟩ := hr'
    have q1 : 0 ≤ r4 ∧ r4 < 9223372036854775808 ∧ r4 % 65536 = 0 ∧ r4 / 4294967296 % 2147483648 = r1 / 4294967296 % 2147483648 := by
      rcases hm with rfl | rfl <;> (refine ⟨?_, ?_, ?_, ?_⟩ <;> omega)
    have e : u64m (r4 + r3) = r4 + r3 := wrap_u64 _ (by omega) (by omega)
    refine go (o' := 11) (r4' := u64m (r4 + r3)) rfl rfl rfl (.inn rfl (.inl rfl) (by decide) ?_ ?_ ?_)
    · rw [e]; simp [arrOk, ovOk]
      have h3b : 0 ≤ r3 ∧ r3 < 65536 := by omega
      have e6 : (r4 + r3) / 65536 = r4 / 65536 := by omega
      have e7 : (r4 + r3) % 65536 = r3 := by omega
      have e8 : (r4 + r3) / 4294967296 = r4 / 4294967296 := by omega
      refine ⟨hr, h2, h0, h1, ⟨by omega, by omega, ?_⟩, ?_, ?_⟩
      · rw [e6, e7, h3]; exact Int.le_refl _
      · rw [e8]; exact q1.2.2.2
      · rw [e6, e7, h3]
    · simp [arrW]
    · simp [arrL]; omega
  · obtain ⟨hr, h2, h0, h1, hr4, hph, hwp⟩ := hok
    have hb := gb_phase (r := r1) ⟨hr.1, by have := hr.2.1; omega⟩
    refine go (o' := 12) (r3' := bitsZ r1 32 31) rfl rfl rfl (.inn rfl (.inl rfl) (by decide) ?_ ?_ ?_)
    · rw [hb]; simp [arrOk, ovOk]; exact ⟨hr, h2, h0, h1, hr4, hph, hwp⟩
    · simp [arrW]
    · simp [arrL]; omega
  · obtain ⟨hr, h2, h0, h1, hr4, ⟨hph, hwp⟩, h3⟩ := hok
    by_cases hw : r3 = 2147483647
    · refine go (o' := 15) rfl rfl (nx_same (hw.trans (by decide))) (.inn rfl (.inl rfl) (by decide) ?_ ?_ ?_)
      · simp [arrOk, ovOk]; exact ⟨hr, h2, h0, h1, hr4, ⟨hph, hwp⟩, h3, hw⟩
      · simp [arrW]
      · simp [arrL]; omega
    · refine go (o' := 13) rfl rfl (nx_same' (fun e => hw (e.trans (by decide)))) (.inn rfl (.inl rfl) (by decide) ?_ ?_ ?_)
      · simp [arrOk, ovOk]; exact ⟨hr, h2, h0, h1, hr4, ⟨hph, hwp⟩, h3, hw⟩
      · simp [arrW]
      · simp [arrL]; omega
  · obtain ⟨hr, h2, h0, h1, hr4, ⟨hph, hwp⟩, h3, hw⟩ := hok
    have hr4' := hr4
    obtain ⟨b1, b2, b3⟩ := hr4'
    have hc0 : r4 / 4294967296 < 2147483648 := by omega
    have hm0 : r4 / 4294967296 % 2147483648 = r4 / 4294967296 := Int.emod_eq_of_lt (by omega) hc0
    have hlt : r4 < 9223372032559808512 := by omega
    have e6 : (r4 + 4294967296) / 65536 = r4 / 65536 + 65536 := by omega
    have e7 : (r4 + 4294967296) % 65536 = r4 % 65536 := by omega
    have e : u64m (r4 + u64m 4294967296) = r4 + 4294967296 := by rw [um_add]; omega
    refine go (o' := 14) (r4' := u64m (r4 + u64m 4294967296)) rfl rfl rfl (.inn rfl (.inl rfl) (by decide) ?_ ?_ ?_)
    · rw [e]; simp [arrOk, ovOk]; exact ⟨hr, h2, h0, h1, by omega, by omega, by rw [e6, e7]; omega⟩
    · simp [arrW]
    · simp [arrL]; omega
  · obtain ⟨hr, h2, h0, h1, hr4⟩ := hok
    refine go (o' := 18) rfl rfl rfl (.inn rfl (.inl rfl) (by decide) ?_ ?_ ?_)
    · simp [arrOk, ovOk]; exact ⟨hr, h2, hr4.1, by have := hr4.2.1; omega, fun _ => hr4, fun _ => h1⟩
    · simp [arrW]
    · simp [arrL]; omega
  · obtain ⟨hr, h2, h0, h1, hr4, ⟨hph, hwp⟩, h3, hw⟩ := hok
    have hr4' := hr4
    obtain ⟨b1, b2, b3⟩ := hr4'
    have hc0 : r4 / 4294967296 < 2147483648 := by omega
    have hm0 : r4 / 4294967296 % 2147483648 = r4 / 4294967296 := Int.emod_eq_of_lt (by omega) hc0
    have hge : 9223372032559808512 ≤ r4 := by omega
    have e6 : (r4 - 9223372032559808512) / 65536 = r4 / 65536 - 140737488289792 := by omega
    have e7 : (r4 - 9223372032559808512) % 65536 = r4 % 65536 := by omega
    have e : u64m (r4 + u64m (-9223372032559808512)) = r4 - 9223372032559808512 := by rw [um_add]; omega
    refine go (o' := 16) (r4' := u64m (r4 + u64m (-9223372032559808512))) rfl rfl rfl (.inn rfl (.inl rfl) (by decide) ?_ ?_ ?_)
    · rw [e]; simp [arrOk, ovOk]; exact ⟨hr, h2, h0, h1, by omega, by omega, by rw [e6, e7]; omega⟩
    · simp [arrW]
    · simp [arrL]; omega
  · obtain ⟨hr, h2, h0, h1, hr4⟩ := hok
    refine go (o' := 18) rfl rfl rfl (.inn rfl (.inl rfl) (by decide) ?_ ?_ ?_)
    · simp [arrOk, ovOk]; exact ⟨hr, h2, hr4.1, by have := hr4.2.1; omega, fun _ => hr4, fun _ => h1⟩
    · simp [arrW]
    · simp [arrL]; omega
  · obtain ⟨hr, h2, h0, h1, hr4⟩ := hok
    have hr4' := hr4
    obtain ⟨b1, b2, b3⟩ := hr4'
    have e : u64m (r4 + u64m (-9223372036854775808)) = r4 + 9223372036854775808 := by rw [um_add]; omega
    refine go (o' := 18) (r4' := u64m (r4 + u64m (-9223372036854775808))) rfl rfl rfl (.inn rfl (.inl rfl) (by decide) ?_ ?_ ?_)
    · rw [e]; simp [arrOk, ovOk]; exact ⟨hr, h2, by omega, by omega, fun _ => by omega, fun _ => h1⟩
    · simp [arrW]
    · simp [arrL]; omega
  · obtain ⟨hr, h2, q1, q2, q3, q4⟩ := hok
    by_cases h1 : v = r1
    · subst h1
      refine go (o' := 19) (r3' := 1) (v' := r4) rfl rfl (nx_swap rfl) (.swap hr ⟨q1, q2, q3⟩ rfl ⟨rfl, rfl, rfl, rfl⟩ ?_ fun hov => ?_)
      · simp [arrOk, ovOk]
      · simp [arrW, q4 hov]
    · have h1' : ¬ r1 = v := fun e => h1 e.symm
      refine go (o' := 19) (r3' := 0) (v' := v) rfl rfl (nx_swap' h1) (.inn rfl (.inr ⟨_, _, rfl⟩) (by decide) ?_ ?_ ?_)
      · simp [arrOk, ovOk]
      · simp [arrW]
      · simp [arrL, pen, h1']
  · rcases hok with rfl | rfl
    · refine go (o' := 0) rfl rfl (nx_same rfl) (.inn rfl (.inl rfl) (by decide) ?_ ?_ ?_)
      · simp [arrOk, ovOk]
      · simp [arrW]
      · simp [arrL]
    · refine go (o' := 20) rfl rfl (nx_same' (fun e => absurd (show (1 : Int) = 0 from e) (by decide))) (.inn rfl (.inl rfl) (by decide) ?_ ?_ ?_)
      · simp [arrOk, ovOk]
      · simp [arrW]
      · simp [arrL]
  · refine go (o' := 21) (r5' := bitsZ r1 32 31) rfl rfl rfl (.inn rfl (.inl rfl) (by decide) ?_ ?_ ?_)
    · simp [arrOk, ovOk]
    · simp [arrW]
    · simp [arrL]
  · by_cases h1 : r2 = 1
    · refine go (o' := 23) rfl rfl (nx_same h1) (.inn rfl (.inl rfl) (by decide) ?_ ?_ ?_)
      · simp [arrOk, ovOk, h1]
      · simp [arrW]
      · simp [arrL]
    · refine go (o' := 22) rfl rfl (nx_same' h1) (.inn rfl (.inl rfl) (by decide) ?_ ?_ ?_)
      · simp [arrOk, ovOk]
      · simp [arrW, h1]
      · simp [arrL]
  · refine go (o' := 29) rfl rfl rfl (.out rfl rfl (.inl rfl) ?_ ?_ ?_) <;> simp [arrW, arrL]
  · exact go (o' := 24) rfl rfl rfl (.wake rfl rfl ⟨rfl, rfl⟩)
  · refine go (o' := 29) rfl rfl rfl (.out rfl rfl (.inl rfl) ?_ ?_ ?_) <;> simp [arrW, arrL]
  · refine go (o' := 26) (r2' := u64m (-1)) rfl rfl rfl (.inn rfl (.inl rfl) (by decide) ?_ ?_ ?_)
    · simp [arrOk, ovOk]
    · simp [arrW]
    · simp [arrL]
  · have hk : cellK 1 ⟨10, fail, 0, 0, 0⟩ = true := by simp [cellK]; omega
    refine go (o' := fail.toNat) rfl hk rfl (.out rfl rfl (.inr rfl) ?_ ?_ fun e => ?_)
    · simp [arrW]
    · simp [arrL]
    · omega
  · refine go (o' := 28) (r2' := u64m (-2)) rfl rfl rfl (.inn rfl (.inl rfl) (by decide) ?_ ?_ ?_)
    · simp [arrOk, ovOk]
    · simp [arrW]
    · simp [arrL]
  · have hk : cellK 1 ⟨10, fail, 0, 0, 0⟩ = true := by simp [cellK]; omega
    refine go (o' := fail.toNat) rfl hk rfl (.out rfl rfl (.inr rfl) ?_ ?_ fun e => ?_)
    · simp [arrW]
    · simp [arrL]
    · omega

end Go.Mac
end

/- Threads that ask a phaser: what a step of a registration, of a close, of a wait comes to. -/
section
open Go Go.Proofs Go.Mac
set_option maxRecDepth 100000
namespace Go.Mac

/-- What a step of a part comes to: where it goes. -/
inductive POut (ok : Int → Nat → Int → Int → Int → Int → Prop) (W : Nat → Int → Int → Bool) (L : Int → Nat → Int → Int → Nat) (fin : Nat) (sl : Bool) (v : Int) (o : Nat) (r1 r2 r3 r4 : Int) (o' : Nat) (r1' r2' r3' r4' v' : Int) (e : EffW) : Prop
  | inn (hv : v' = v) (he : e = .no ∨ ∃ a b, e = .act a 0 b b) (hok : ok v o' r1' r2' r3' r4') (hw : W o r2 r3 = true → W o' r2' r3' = true) (hp : L v o' r1' r3' + 1 ≤ L v o r1 r3)
  | say (hv : v' = v) (he : e = .say 3 (IntKind.i64.wrap r2)) (ho : o' = o + 1 ∧ o = fin) (hw : W o r2 r3 = false) (hp : 1 ≤ L v o r1 r3)
  | sleep (hz : sl = true ∧ o' = 7) (hv : v' = v) (hr : RW v) (he : e = .sleep 0) (hok : ok v o' r1' r2' r3' r4') (hw : W o r2 r3 = false) (hp : L v o' r1' r3' ≤ L v o r1 r3 + 9)
  | wake (hv : v' = v) (he : e = .wake 0 16) (hok : ok v o' r1' r2' r3' r4') (hp : L v o' r1' r3' + 71 ≤ L v o r1 r3)
  | swap (hr : RW v) (hv : 0 ≤ v' ∧ v' < 18446744073709551616 ∧ (v' < 9223372036854775808 → RW v')) (he : e = .act 9 0 v v') (hok : ok v' o' r1' r2' r3' r4') (hw : 9223372036854775808 ≤ v' → W o' r2' r3' = true) (hp : L v' o' r1' r3' + 161 ≤ L v o r1 r3)

def regOk (n v : Int) (o : Nat) (r1 r2 r3 r4 : Int) : Prop :=
  o ≤ 14 ∧ ovOk v o r1 r2 ∧ (3 ≤ o → o ≤ 7 → RW r1) ∧ (o = 4 ∨ o = 5 ∨ o = 6 → r2 = r1 / 65536 % 65536) ∧ (o = 5 → r3 = 65535 - n) ∧ (o = 6 → r2 + n ≤ 65535) ∧ (o = 7 → RW r4) ∧ (o = 8 → r3 = 0 ∨ r3 = 1)
def noW (_ : Nat) (_ _ : Int) : Bool := false
def regL (v : Int) (o : Nat) (r1 r3 : Int) : Nat :=
  if o = 0 then 183 else if o ≤ 6 then 183 - o + pen v r1 else if o = 7 then 165 + pen v r1 else if o = 8 then (if r3 = 0 then 184 else 4) else if o = 9 ∨ o = 11 then 3 else if o = 14 then 1 else 2

def clsOk (v : Int) (o : Nat) (r1 r2 r3 r4 : Int) : Prop :=
  o ≤ 10 ∧ ovOk v o r1 r2 ∧ (o = 3 ∨ o = 4 → RW r1) ∧ (o = 4 → r4 = r1 + 9223372036854775808) ∧ (o = 5 → r3 = 0 ∨ r3 = 1)
def clsW (o : Nat) (_ r3 : Int) : Bool := (o == 5 && r3 == 1) || o == 6
def clsL (v : Int) (o : Nat) (r1 r3 : Int) : Nat :=
  if o = 0 then 255 else if o ≤ 3 then 255 - o + pen v r1 else if o = 4 then 237 + pen v r1 else if o = 5 then (if r3 = 0 then 256 else 76) else if o = 6 then 75 else if o = 7 then 3 else if o = 10 then 1 else 2

def awOk (v : Int) (k : Nat) (r1 r2 _ _ : Int) : Prop := k ≤ 9 ∧ ovOk v k r1 r2 ∧ (3 ≤ k → k ≤ 6 → RW r1)
def awL (v : Int) (k : Nat) (r1 _ : Int) : Nat :=
  if k = 0 then 8 else if k ≤ 4 then 8 - k + pen v r1 else if k = 6 then 3 + pen v r1 else if k = 7 then 9 else if k = 9 then 1 else 2

theorem regL_mono (v w : Int) (o : Nat) (r1 r3 : Int) : regL w o r1 r3 ≤ regL v o r1 r3 + 20 := by
  have := pen_mono v w r1
  unfold regL
  repeat' split
  all_goals omega
theorem clsL_mono (v w : Int) (o : Nat) (r1 r3 : Int) : clsL w o r1 r3 ≤ clsL v o r1 r3 + 20 := by
  have := pen_mono v w r1
  unfold clsL
  repeat' split
  all_goals omega
theorem awL_mono (v w : Int) (o : Nat) (r1 r3 : Int) : awL w o r1 r3 ≤ awL v o r1 r3 + 20 := by
  have := pen_mono v w r1
  unfold awL
  repeat' split
  all_goals omega

def PStep (B : List InsZ) (ok : Int → Nat → Int → Int → Int → Int → Prop) (W : Nat → Int → Int → Bool) (L : Int → Nat → Int → Int → Nat) (fin : Nat) (sl : Bool) (q : Nat) (v : Int) (o : Nat) (r1 r2 r3 r4 r5 : Int) : Prop :=
  ∃ i o' r1' r2' r3' r4' v' e, B[o]? = some i ∧ cellK 1 i = true ∧ nextW i ⟨q + o, [0, r1, r2, r3, r4, r5, 0, 0], false⟩ [v] = (⟨q + o', [0, r1', r2', r3', r4', r5, 0, 0], false⟩, [v'], e) ∧ POut ok W L fin sl v o r1 r2 r3 r4 o' r1' r2' r3' r4' v' e

set_option maxHeartbeats 2000000 in
theorem reg_step {n v : Int} (hn : 1 ≤ n ∧ n ≤ 65535) {o : Nat} {r1 r2 r3 r4 r5 : Int} (hv : WD v v) (hok : regOk n v o r1 r2 r3 r4) : PStep (registerI 0 n) (regOk n) noW regL 14 false 0 v o r1 r2 r3 r4 r5 := by
  have go : ∀ {i : InsZ} {o' : Nat} {r1' r2' r3' r4' v' : Int} {e : EffW}, (registerI 0 n)[o]? = some i → cellK 1 i = true → nextW i ⟨0 + o, [0, r1, r2, r3, r4, r5, 0, 0], false⟩ [v] = (⟨0 + o', [0, r1', r2', r3', r4', r5, 0, 0], false⟩, [v'], e) → POut (regOk n) noW regL 14 false v o r1 r2 r3 r4 o' r1' r2' r3' r4' v' e → PStep (registerI 0 n) (regOk n) noW regL 14 false 0 v o r1 r2 r3 r4 r5 :=
    fun h1 h2 h3 h4 => ⟨_, _, _, _, _, _, _, _, h1, h2, h3, h4⟩
  have ho := hok.1
  rcases (show o = 0 ∨ o = 1 ∨ o = 2 ∨ o = 3 ∨ o = 4 ∨ o = 5 ∨ o = 6 ∨ o = 7 ∨ o = 8 ∨ o = 9 ∨ o = 10 ∨ o = 11 ∨ o = 12 ∨ o = 13 ∨ o = 14 by omega) with rfl | rfl | rfl | rfl | rfl | rfl | rfl | rfl | rfl | rfl | rfl | rfl | rfl | rfl | rfl <;> simp [regOk, ovOk] at hok
  · refine go (o' := 1) (r1' := v) rfl rfl rfl (.inn rfl (.inr ⟨_, _, rfl⟩) ?_ (fun h => by cases h) ?_)
    · simp [regOk, ovOk]; exact hv
    · simp [regL, pen]
  · have hb := gb_over (r := r1) ⟨hok.1, hok.2.1⟩
    refine go (o' := 2) (r2' := bitsZ r1 63 1) rfl rfl rfl (.inn rfl (.inl rfl) ?_ (fun h => by cases h) ?_)
    · rw [hb]; simp [regOk, ovOk]; exact hok
    · simp [regL]; omega
  · obtain ⟨hw, h2⟩ := hok
    by_cases hov : 9223372036854775808 ≤ r1
    · rw [if_pos hov] at h2
      subst h2
      refine go (o' := 11) rfl rfl (nx_same rfl) (.inn rfl (.inl rfl) ?_ (fun h => by cases h) ?_)
      · simp [regOk, ovOk]
      · simp [regL]; omega
    · rw [if_neg hov] at h2
      subst h2
      refine go (o' := 3) rfl rfl (nx_same' (fun e => absurd (show (0 : Int) = 1 from e) (by decide))) (.inn rfl (.inl rfl) ?_ (fun h => by cases h) ?_)
      · simp [regOk, ovOk]; exact hw.2.2.1 (by omega)
      · simp [regL]; omega
  · obtain ⟨a1, a2, a3⟩ := hok
    have hb := gb_part (r := r1) ⟨a1, by omega⟩
    refine go (o' := 4) (r2' := bitsZ r1 16 16) rfl rfl rfl (.inn rfl (.inl rfl) ?_ (fun h => by cases h) ?_)
    · rw [hb]; simp [regOk, ovOk]; exact ⟨a1, a2, a3⟩
    · simp [regL]; omega
  · obtain ⟨hr, h2⟩ := hok
    have e : u64m (65535 - n) = 65535 - n := wrap_u64 _ (by omega) (by omega)
    refine go (o' := 5) (r3' := u64m (65535 - n)) rfl rfl rfl (.inn rfl (.inl rfl) ?_ (fun h => by cases h) ?_)
    · rw [e]; simp [regOk, ovOk]; exact ⟨hr, h2⟩
    · simp [regL]; omega
  · obtain ⟨hr, h2, h3⟩ := hok
    by_cases hl : r3 < r2
    · refine go (o' := 13) rfl rfl (nx_less hl) (.inn rfl (.inl rfl) ?_ (fun h => by cases h) ?_)
      · simp [regOk, ovOk]
      · simp [regL]; omega
    · refine go (o' := 6) rfl rfl (nx_less' hl) (.inn rfl (.inl rfl) ?_ (fun h => by cases h) ?_)
      · simp [regOk, ovOk]; exact ⟨hr, h2, by omega⟩
      · simp [regL]; omega
  · obtain ⟨hr, h2, h6⟩ := hok
    have hr' := hr
    obtain ⟨a1, a2, a3⟩ := hr'
    have e : u64m (r1 + u64m (65537 * n)) = r1 + 65537 * n := by rw [um_add]; omega
    have e6 : (r1 + 65537 * n) / 65536 = r1 / 65536 + n := by omega
    have e7 : (r1 + 65537 * n) % 65536 = r1 % 65536 + n := by omega
    refine go (o' := 7) (r4' := u64m (r1 + u64m (65537 * n))) rfl rfl rfl (.inn rfl (.inl rfl) ?_ (fun h => by cases h) ?_)
    · rw [e]; simp [regOk, ovOk]; exact ⟨hr, by omega, by omega, by rw [e6, e7]; omega⟩
    · simp [regL]; omega
  · obtain ⟨hr, hr4⟩ := hok
    by_cases h1 : v = r1
    · subst h1
      refine go (o' := 8) (r3' := 1) (v' := r4) rfl rfl (nx_swap rfl) (.swap hr ⟨hr4.1, by have := hr4.2.1; omega, fun _ => hr4⟩ rfl ?_ (fun h => by have := hr4.2.1; omega) ?_)
      · simp [regOk, ovOk]
      · simp [regL, pen]
    · have h1' : ¬ r1 = v := fun e => h1 e.symm
      refine go (o' := 8) (r3' := 0) (v' := v) rfl rfl (nx_swap' h1) (.inn rfl (.inr ⟨_, _, rfl⟩) ?_ (fun h => by cases h) ?_)
      · simp [regOk, ovOk]
      · simp [regL, pen, h1']
  · rcases hok with rfl | rfl
    · refine go (o' := 0) rfl rfl (nx_same rfl) (.inn rfl (.inl rfl) ?_ (fun h => by cases h) ?_)
      · simp [regOk, ovOk]
      · simp [regL]
    · refine go (o' := 9) rfl rfl (nx_same' (fun e => absurd (show (1 : Int) = 0 from e) (by decide))) (.inn rfl (.inl rfl) ?_ (fun h => by cases h) ?_)
      · simp [regOk, ovOk]
      · simp [regL]
  · refine go (o' := 10) (r2' := bitsZ r1 32 31) rfl rfl rfl (.inn rfl (.inl rfl) ?_ (fun h => by cases h) ?_)
    · simp [regOk, ovOk]
    · simp [regL]
  · refine go (o' := 14) rfl rfl rfl (.inn rfl (.inl rfl) ?_ (fun h => by cases h) ?_)
    · simp [regOk, ovOk]
    · simp [regL]
  · refine go (o' := 12) (r2' := u64m (-1)) rfl rfl rfl (.inn rfl (.inl rfl) ?_ (fun h => by cases h) ?_)
    · simp [regOk, ovOk]
    · simp [regL]
  · refine go (o' := 14) rfl rfl rfl (.inn rfl (.inl rfl) ?_ (fun h => by cases h) ?_)
    · simp [regOk, ovOk]
    · simp [regL]
  · refine go (o' := 14) (r2' := u64m (-3)) rfl rfl rfl (.inn rfl (.inl rfl) ?_ (fun h => by cases h) ?_)
    · simp [regOk, ovOk]
    · simp [regL]
  · exact go (o' := 15) rfl rfl rfl (.say rfl rfl ⟨rfl, rfl⟩ rfl (by simp [regL]))

set_option maxHeartbeats 2000000 in
theorem cls_step {v : Int} {o : Nat} {r1 r2 r3 r4 r5 : Int} (hv : WD v v) (hok : clsOk v o r1 r2 r3 r4) : PStep (closesI 0) clsOk clsW clsL 10 false 0 v o r1 r2 r3 r4 r5 := by
  have go : ∀ {i : InsZ} {o' : Nat} {r1' r2' r3' r4' v' : Int} {e : EffW}, (closesI 0)[o]? = some i → cellK 1 i = true → nextW i ⟨0 + o, [0, r1, r2, r3, r4, r5, 0, 0], false⟩ [v] = (⟨0 + o', [0, r1', r2', r3', r4', r5, 0, 0], false⟩, [v'], e) → POut clsOk clsW clsL 10 false v o r1 r2 r3 r4 o' r1' r2' r3' r4' v' e → PStep (closesI 0) clsOk clsW clsL 10 false 0 v o r1 r2 r3 r4 r5 :=
    fun h1 h2 h3 h4 => ⟨_, _, _, _, _, _, _, _, h1, h2, h3, h4⟩
  have ho := hok.1
  rcases (show o = 0 ∨ o = 1 ∨ o = 2 ∨ o = 3 ∨ o = 4 ∨ o = 5 ∨ o = 6 ∨ o = 7 ∨ o = 8 ∨ o = 9 ∨ o = 10 by omega) with rfl | rfl | rfl | rfl | rfl | rfl | rfl | rfl | rfl | rfl | rfl <;> simp [clsOk, ovOk] at hok
  · refine go (o' := 1) (r1' := v) rfl rfl rfl (.inn rfl (.inr ⟨_, _, rfl⟩) ?_ ?_ ?_)
    · simp [clsOk, ovOk]; exact hv
    · simp [clsW]
    · simp [clsL, pen]
  · have hb := gb_over (r := r1) ⟨hok.1, hok.2.1⟩
    refine go (o' := 2) (r2' := bitsZ r1 63 1) rfl rfl rfl (.inn rfl (.inl rfl) ?_ ?_ ?_)
    · rw [hb]; simp [clsOk, ovOk]; exact hok
    · simp [clsW]
    · simp [clsL]; omega
  · obtain ⟨hw, h2⟩ := hok
    by_cases hov : 9223372036854775808 ≤ r1
    · rw [if_pos hov] at h2
      subst h2
      refine go (o' := 9) rfl rfl (nx_same rfl) (.inn rfl (.inl rfl) ?_ ?_ ?_)
      · simp [clsOk, ovOk]
      · simp [clsW]
      · simp [clsL]; omega
    · rw [if_neg hov] at h2
      subst h2
      refine go (o' := 3) rfl rfl (nx_same' (fun e => absurd (show (0 : Int) = 1 from e) (by decide))) (.inn rfl (.inl rfl) ?_ ?_ ?_)
      · simp [clsOk, ovOk]; exact hw.2.2.1 (by omega)
      · simp [clsW]
      · simp [clsL]; omega
  · have hr' := hok
    obtain ⟨a1, a2, a3⟩ := hr'
    have e : u64m (r1 + u64m (-9223372036854775808)) = r1 + 9223372036854775808 := by rw [um_add]; omega
    refine go (o' := 4) (r4' := u64m (r1 + u64m (-9223372036854775808))) rfl rfl rfl (.inn rfl (.inl rfl) ?_ ?_ ?_)
    · rw [e]; simp [clsOk, ovOk]; exact hok
    · simp [clsW]
    · simp [clsL]; omega
  · obtain ⟨hr, h4⟩ := hok
    have hr' := hr
    obtain ⟨a1, a2, a3⟩ := hr'
    by_cases h1 : v = r1
    · subst h1
      refine go (o' := 5) (r3' := 1) (v' := r4) rfl rfl (nx_swap rfl) (.swap hr ⟨by omega, by omega, fun _ => by omega⟩ rfl ?_ (fun _ => ?_) ?_)
      · simp [clsOk, ovOk]
      · simp [clsW]
      · simp [clsL, pen]
    · have h1' : ¬ r1 = v := fun e => h1 e.symm
      refine go (o' := 5) (r3' := 0) (v' := v) rfl rfl (nx_swap' h1) (.inn rfl (.inr ⟨_, _, rfl⟩) ?_ ?_ ?_)
      · simp [clsOk, ovOk]
      · simp [clsW]
      · simp [clsL, pen, h1']
  · rcases hok with rfl | rfl
    · refine go (o' := 0) rfl rfl (nx_same rfl) (.inn rfl (.inl rfl) ?_ ?_ ?_)
      · simp [clsOk, ovOk]
      · simp [clsW]
      · simp [clsL]
    · refine go (o' := 6) rfl rfl (nx_same' (fun e => absurd (show (1 : Int) = 0 from e) (by decide))) (.inn rfl (.inl rfl) ?_ ?_ ?_)
      · simp [clsOk, ovOk]
      · simp [clsW]
      · simp [clsL]
  · refine go (o' := 7) rfl rfl rfl (.wake rfl rfl ?_ ?_)
    · simp [clsOk, ovOk]
    · simp [clsL]
  · refine go (o' := 8) (r2' := u64m 0) rfl rfl rfl (.inn rfl (.inl rfl) ?_ ?_ ?_)
    · simp [clsOk, ovOk]
    · simp [clsW]
    · simp [clsL]
  · refine go (o' := 10) rfl rfl rfl (.inn rfl (.inl rfl) ?_ ?_ ?_)
    · simp [clsOk, ovOk]
    · simp [clsW]
    · simp [clsL]
  · refine go (o' := 10) (r2' := u64m (-1)) rfl rfl rfl (.inn rfl (.inl rfl) ?_ ?_ ?_)
    · simp [clsOk, ovOk]
    · simp [clsW]
    · simp [clsL]
  · exact go (o' := 11) rfl rfl rfl (.say rfl rfl ⟨rfl, rfl⟩ rfl (by simp [clsL]))

set_option maxHeartbeats 2000000 in
theorem aw_step {v : Int} (q : Nat) {o : Nat} {r1 r2 r3 r4 r5 : Int} (hv : WD v v) (hok : awOk v o r1 r2 r3 r4) : PStep (awaitI q) awOk noW awL 9 true q v o r1 r2 r3 r4 r5 := by
  have go : ∀ {i : InsZ} {o' : Nat} {r1' r2' r3' r4' v' : Int} {e : EffW}, (awaitI q)[o]? = some i → cellK 1 i = true → nextW i ⟨q + o, [0, r1, r2, r3, r4, r5, 0, 0], false⟩ [v] = (⟨q + o', [0, r1', r2', r3', r4', r5, 0, 0], false⟩, [v'], e) → POut awOk noW awL 9 true v o r1 r2 r3 r4 o' r1' r2' r3' r4' v' e → PStep (awaitI q) awOk noW awL 9 true q v o r1 r2 r3 r4 r5 :=
    fun h1 h2 h3 h4 => ⟨_, _, _, _, _, _, _, _, h1, h2, h3, h4⟩
  have ho := hok.1
  have t8 : ((q : Int) + 8).toNat = q + 8 := by omega
  have t6 : ((q : Int) + 6).toNat = q + 6 := by omega
  have t9 : ((q : Int) + 9).toNat = q + 9 := by omega
  have c8 : cellK 1 ⟨11, 2, 1, (q : Int) + 8, 0⟩ = true := by simp [cellK]; omega
  have c6 : cellK 1 ⟨13, 2, 5, (q : Int) + 6, 0⟩ = true := by simp [cellK]; omega
  have c9 : cellK 1 ⟨10, (q : Int) + 9, 0, 0, 0⟩ = true := by simp [cellK]; omega
  have c0 : cellK 1 ⟨10, (q : Int), 0, 0, 0⟩ = true := by simp [cellK]
  rcases (show o = 0 ∨ o = 1 ∨ o = 2 ∨ o = 3 ∨ o = 4 ∨ o = 5 ∨ o = 6 ∨ o = 7 ∨ o = 8 ∨ o = 9 by omega) with rfl | rfl | rfl | rfl | rfl | rfl | rfl | rfl | rfl | rfl <;> simp [awOk, ovOk] at hok
  · refine go (o' := 1) (r1' := v) rfl rfl rfl (.inn rfl (.inr ⟨_, _, rfl⟩) ?_ (fun h => by cases h) ?_)
    · simp [awOk, ovOk]; exact hv
    · simp [awL, pen]
  · have hb := gb_over (r := r1) ⟨hok.1, hok.2.1⟩
    refine go (o' := 2) (r2' := bitsZ r1 63 1) rfl rfl rfl (.inn rfl (.inl rfl) ?_ (fun h => by cases h) ?_)
    · rw [hb]; simp [awOk, ovOk]; exact hok
    · simp [awL]; omega
  · obtain ⟨hw, h2⟩ := hok
    by_cases hov : 9223372036854775808 ≤ r1
    · rw [if_pos hov] at h2
      subst h2
      refine go (o' := 8) rfl c8 ((nx_same rfl).trans (by rw [t8])) (.inn rfl (.inl rfl) ?_ (fun h => by cases h) ?_)
      · simp [awOk, ovOk]
      · simp [awL]; omega
    · rw [if_neg hov] at h2
      subst h2
      refine go (o' := 3) rfl c8 (nx_same' (fun e => absurd (show (0 : Int) = 1 from e) (by decide))) (.inn rfl (.inl rfl) ?_ (fun h => by cases h) ?_)
      · simp [awOk, ovOk]; exact hw.2.2.1 (by omega)
      · simp [awL]; omega
  · refine go (o' := 4) (r2' := bitsZ r1 32 31) rfl rfl rfl (.inn rfl (.inl rfl) ?_ (fun h => by cases h) ?_)
    · simp [awOk, ovOk]; exact hok
    · simp [awL]; omega
  · by_cases h1 : r2 = r5
    · refine go (o' := 6) rfl c6 ((nx_equal (rg := [0, r1, r2, r3, r4, r5, 0, 0]) (a := 2) (b := 5) h1).trans (by rw [t6])) (.inn rfl (.inl rfl) ?_ (fun h => by cases h) ?_)
      · simp [awOk, ovOk]; exact hok
      · simp [awL]; omega
    · refine go (o' := 5) rfl c6 (nx_equal' (rg := [0, r1, r2, r3, r4, r5, 0, 0]) (a := 2) (b := 5) h1) (.inn rfl (.inl rfl) ?_ (fun h => by cases h) ?_)
      · simp [awOk, ovOk]; exact hok
      · simp [awL]; omega
  · refine go (o' := 9) rfl c9 (by show ((⟨((q : Int) + 9).toNat, [0, r1, r2, r3, r4, r5, 0, 0], false⟩ : ThZ), [v], EffW.no) = _; rw [t9]) (.inn rfl (.inl rfl) ?_ (fun h => by cases h) ?_)
    · simp [awOk, ovOk]
    · simp [awL]
  · by_cases h1 : v = r1
    · subst h1
      refine go (o' := 7) rfl rfl (nx_wait rfl) (.sleep ⟨rfl, rfl⟩ rfl hok rfl ?_ rfl ?_)
      · simp [awOk, ovOk]
      · simp [awL, pen]
    · have h1' : ¬ r1 = v := fun e => h1 e.symm
      refine go (o' := 7) rfl rfl (nx_wait' h1) (.inn rfl (.inl rfl) ?_ (fun h => by cases h) ?_)
      · simp [awOk, ovOk]
      · simp [awL, pen, h1']
  · refine go (o' := 0) rfl c0 (by show ((⟨((q : Int)).toNat, [0, r1, r2, r3, r4, r5, 0, 0], false⟩ : ThZ), [v], EffW.no) = _; rw [Int.toNat_natCast]; rfl) (.inn rfl (.inl rfl) ?_ (fun h => by cases h) ?_)
    · simp [awOk, ovOk]
    · simp [awL]
  · refine go (o' := 9) (r2' := u64m (-1)) rfl rfl rfl (.inn rfl (.inl rfl) ?_ (fun h => by cases h) ?_)
    · simp [awOk, ovOk]
    · simp [awL]
  · exact go (o' := 10) rfl rfl rfl (.say rfl rfl ⟨rfl, rfl⟩ rfl (by simp [awL]))

end Go.Mac
end

/- Threads that ask a phaser: what a step of one comes to. -/
section
open Go Go.Proofs Go.Mac
set_option maxRecDepth 100000
namespace Go.Mac


def gOk (c : CallZ) (v : Int) (o : Nat) (r1 r2 r3 r4 : Int) : Prop :=
  if c.w = 6 then regOk c.n v o r1 r2 r3 r4
  else if c.w = 10 then o ≤ 10 ∧ (1 ≤ o → awOk v (o - 1) r1 r2 r3 r4)
  else if c.w = 11 then clsOk v o r1 r2 r3 r4
  else if c.w = 9 then o ≤ 38 ∧ (o ≤ 28 → arrOk (-1) v o r1 r2 r3 r4) ∧ (29 ≤ o → awOk v (o - 29) r1 r2 r3 r4)
  else o ≤ 30 ∧ (o ≤ 28 → arrOk (arrM c) v o r1 r2 r3 r4)

def gW (c : CallZ) (o : Nat) (r2 r3 : Int) : Bool :=
  if c.w = 6 ∨ c.w = 10 then false else if c.w = 11 then clsW o r2 r3 else decide (o ≤ 28) && arrW o r2 r3

def gL (c : CallZ) (v : Int) (o : Nat) (r1 r3 : Int) : Nat :=
  if c.w = 6 then regL v o r1 r3
  else if c.w = 10 then (if o = 0 then 30 else awL v (o - 1) r1 r3)
  else if c.w = 11 then clsL v o r1 r3
  else if o ≤ 28 then arrL v o r1 r3
  else if c.w = 9 then awL v (o - 29) r1 r3
  else if o = 29 then 2 else 1

theorem gL_mono (c : CallZ) (v w : Int) (o : Nat) (r1 r3 : Int) : gL c w o r1 r3 ≤ gL c v o r1 r3 + 20 := by
  have a1 := regL_mono v w o r1 r3
  have a2 := awL_mono v w (o - 1) r1 r3
  have a3 := clsL_mono v w o r1 r3
  have a4 := arrL_mono v w o r1 r3
  have a5 := awL_mono v w (o - 29) r1 r3
  unfold gL
  repeat' split
  all_goals omega

theorem gL_0 (c : CallZ) (v r1 r3 : Int) : gL c v 0 r1 r3 ≤ 265 := by
  unfold gL
  repeat' split
  all_goals simp [regL, clsL, arrL, awL] <;> omega

theorem gOk_0 {c : CallZ} (v : Int) (r1 r2 r3 r4 : Int) : gOk c v 0 r1 r2 r3 r4 := by
  unfold gOk
  repeat' split
  all_goals simp [regOk, clsOk, arrOk, awOk, ovOk]

def GcG (l : List CallZ) (v : Int) (g : GZ) : Prop :=
  ∃ r1 r2 r3 r4 r5 : Int, g.y.rg = [0, r1, r2, r3, r4, r5, 0, 0] ∧ (g.y.dn = true ∧ g.j = l.length ∨ g.y.dn = false ∧ ((∃ c, l[g.j]? = some c ∧ gOk c v g.y.pc r1 r2 r3 r4) ∨ g.j = l.length ∧ g.y.pc = 0))

def gwG (l : List CallZ) (g : GZ) : Bool :=
  match l[g.j]? with
  | some c => gW c g.y.pc (rgZ g.y.rg 2) (rgZ g.y.rg 3)
  | none => false
def glN (v : Int) (c : Option CallZ) (o : Nat) (r1 r3 : Int) : Nat :=
  match c with
  | some c => gL c v o r1 r3
  | none => 0
def glG (v : Int) (l : List CallZ) (g : GZ) : Nat := if g.y.dn = true then 0 else 290 * (l.length - (g.j + 1)) + glN v l[g.j]? g.y.pc (rgZ g.y.rg 1) (rgZ g.y.rg 3) + 1

theorem gw_at {l : List CallZ} {j : Nat} {c : CallZ} (h : l[j]? = some c) (o : Nat) (r : List Int) (d : Bool) : gwG l ⟨j, ⟨o, r, d⟩⟩ = gW c o (rgZ r 2) (rgZ r 3) := by rw [gwG, h]
theorem gl_at {v : Int} {l : List CallZ} {j : Nat} {c : CallZ} (h : l[j]? = some c) (o : Nat) (r : List Int) : glG v l ⟨j, ⟨o, r, false⟩⟩ = 290 * (l.length - (j + 1)) + gL c v o (rgZ r 1) (rgZ r 3) + 1 := by rw [glG, h]; rfl
theorem gl_0 (v : Int) (l : List CallZ) (j : Nat) (r : List Int) : glG v l ⟨j, ⟨0, r, false⟩⟩ ≤ 290 * (l.length - j) + 1 := by
  cases h : l[j]? with
  | none =>
    rw [glG, h]
    have := List.getElem?_eq_none_iff.1 h
    show 290 * (l.length - (j + 1)) + 0 + 1 ≤ _
    omega
  | some c =>
    have := (List.getElem?_eq_some_iff.1 h).1
    have h0 := gL_0 c v (rgZ r 1) (rgZ r 3)
    rw [gl_at h]
    omega

theorem glG_mono {v w : Int} {d : Nat} (h : w = v ∨ d = 20) (l : List CallZ) (g : GZ) : glG w l g ≤ glG v l g + d := by
  rcases h with rfl | rfl
  · omega
  · unfold glG glN
    split
    · omega
    · split
      · rename_i c _
        have := gL_mono c v w g.y.pc (rgZ g.y.rg 1) (rgZ g.y.rg 3)
        omega
      · omega

inductive GcOut (l : List CallZ) (g : GZ) (v : Int) (g' : GZ) (v' : Int) (e : EffW) : Prop
  | quiet (hv : v' = v) (he : e = .no ∨ (∃ a x, e = .say a x) ∨ ∃ a b, e = .act a 0 b b) (hw : gwG l g = true → gwG l g' = true) (hp : glG v l g' + 1 ≤ glG v l g)
  | sleep (hv : v' = v) (hr : RW v) (he : e = .sleep 0) (hw : gwG l g = true → gwG l g' = true) (hs : (∃ c, l[g'.j]? = some c ∧ (c.w = 10 ∧ g'.y.pc = 8 ∨ c.w = 9 ∧ g'.y.pc = 36)) ∧ g'.y.dn = false) (hp : glG v l g' ≤ glG v l g + 9)
  | wake (hv : v' = v) (he : e = .wake 0 16) (hp : glG v l g' + 71 ≤ glG v l g)
  | swap (hr : RW v) (hv : 0 ≤ v' ∧ v' < 18446744073709551616 ∧ (v' < 9223372036854775808 → RW v')) (he : e = .act 9 0 v v') (hw : 9223372036854775808 ≤ v' → gwG l g' = true) (hp : glG v' l g' + 161 ≤ glG v l g)

def GcS (l : List CallZ) (g : GZ) (v : Int) : Prop := ∃ g' v' e, LS 1 (l.map bodyG) g [v] g' [v'] e ∧ GcG l v' g' ∧ GcOut l g v g' v' e

theorem gc_G0 {l : List CallZ} {j : Nat} {c : CallZ} (hb : l[j]? = some c) (v r1 r2 r3 r4 r5 : Int) : GcG l v ⟨j + 1, ⟨0, [0, r1, r2, r3, r4, r5, 0, 0], false⟩⟩ := by
  have hlt := (List.getElem?_eq_some_iff.1 hb).1
  refine ⟨r1, r2, r3, r4, r5, rfl, .inr ⟨rfl, ?_⟩⟩
  cases h : l[j + 1]? with
  | none => exact .inr ⟨by have := List.getElem?_eq_none_iff.1 h; show j + 1 = _; omega, rfl⟩
  | some c => exact .inl ⟨c, by first | exact h | rfl, gOk_0 ..⟩

theorem gW_0 (c : CallZ) (r2 r3 : Int) : gW c 0 r2 r3 = false := by
  unfold gW
  repeat' split
  all_goals simp [clsW, arrW]

/-- A step of a part of a body. -/
theorem gc_part {l : List CallZ} {j : Nat} {c : CallZ} (hb : l[j]? = some c) {B : List InsZ} {ok : Int → Nat → Int → Int → Int → Int → Prop} {W : Nat → Int → Int → Bool} {L : Int → Nat → Int → Int → Nat} {fin q : Nat} {sl : Bool} (hsl : sl = true → c.w = 10 ∧ q = 1 ∨ c.w = 9 ∧ q = 29)
    (hB : ∀ o i, B[o]? = some i → (bodyG c)[q + o]? = some i) (hok : ∀ v o r1 r2 r3 r4, ok v o r1 r2 r3 r4 → q + o < (bodyG c).length ∧ gOk c v (q + o) r1 r2 r3 r4) (hfin : q + (fin + 1) = (bodyG c).length)
    (hW : ∀ o r2 r3, o ≤ fin → gW c (q + o) r2 r3 = W o r2 r3) (hf : ∀ v o r1 r2 r3 r4, ok v o r1 r2 r3 r4 → o ≤ fin) (hL : ∀ v o r1 r3, gL c v (q + o) r1 r3 = L v o r1 r3) {v : Int} {o : Nat} (hof : o ≤ fin) {r1 r2 r3 r4 r5 : Int} (hs : PStep B ok W L fin sl q v o r1 r2 r3 r4 r5) :
    GcS l ⟨j, ⟨q + o, [0, r1, r2, r3, r4, r5, 0, 0], false⟩⟩ v := by
  obtain ⟨i, o', r1', r2', r3', r4', v', e, hi, hc, hn, hout⟩ := hs
  have hi' := hB o i hi
  cases hout with
  | inn hv he hk hw hp =>
    subst hv
    obtain ⟨h1, h2⟩ := hok _ _ _ _ _ _ hk
    have hf' := hf _ _ _ _ _ _ hk
    refine ⟨_, _, _, LS.inn hb hi' (cellK_ok hc) hn h1, ⟨_, _, _, _, _, rfl, .inr ⟨rfl, .inl ⟨c, hb, h2⟩⟩⟩, .quiet rfl (by rcases he with h | h; exact .inl h; exact .inr (.inr h)) ?_ ?_⟩
    · rw [gw_at hb, gw_at hb, hW _ _ _ hof, hW _ _ _ hf']; exact hw
    · rw [gl_at hb, gl_at hb, hL, hL]
      show _ + L _ o' r1' r3' + 1 + 1 ≤ _ + L _ o r1 r3 + 1
      omega
  | say hv he ho hw hp =>
    subst hv he
    obtain ⟨rfl, rfl⟩ := ho
    refine ⟨_, _, _, LS.out hb hi' (cellK_ok hc) hn hfin, gc_G0 hb _ _ _ _ _ _, .quiet rfl (.inr (.inl ⟨_, _, rfl⟩)) (fun h => ?_) ?_⟩
    · rw [gw_at hb, hW _ _ _ hof] at h
      have hw : W o (rgZ [0, r1, r2, r3, r4, r5, 0, 0] 2) (rgZ [0, r1, r2, r3, r4, r5, 0, 0] 3) = false := hw
      rw [hw] at h; cases h
    · have := gl_0 v' l (j + 1) [0, r1', r2', r3', r4', r5, 0, 0]
      rw [gl_at hb, hL]
      show _ + 1 ≤ _ + L _ o r1 r3 + 1
      omega
  | sleep hz hv hr he hk hw hp =>
    subst hv he
    obtain ⟨hz, rfl⟩ := hz
    have hz := hsl hz
    obtain ⟨h1, h2⟩ := hok _ _ _ _ _ _ hk
    refine ⟨_, _, _, LS.inn hb hi' (cellK_ok hc) hn h1, ⟨_, _, _, _, _, rfl, .inr ⟨rfl, .inl ⟨c, hb, h2⟩⟩⟩, .sleep rfl hr rfl (fun h => ?_) ⟨⟨c, hb, by show c.w = 10 ∧ q + 7 = 8 ∨ c.w = 9 ∧ q + 7 = 36; omega⟩, rfl⟩ ?_⟩
    · rw [gw_at hb, hW _ _ _ hof] at h
      have hw : W o (rgZ [0, r1, r2, r3, r4, r5, 0, 0] 2) (rgZ [0, r1, r2, r3, r4, r5, 0, 0] 3) = false := hw
      rw [hw] at h; cases h
    · rw [gl_at hb, gl_at hb, hL, hL]
      show _ + L _ 7 r1' r3' + 1 ≤ _ + L _ o r1 r3 + 1 + 9
      omega
  | wake hv he hk hp =>
    subst hv he
    obtain ⟨h1, h2⟩ := hok _ _ _ _ _ _ hk
    refine ⟨_, _, _, LS.inn hb hi' (cellK_ok hc) hn h1, ⟨_, _, _, _, _, rfl, .inr ⟨rfl, .inl ⟨c, hb, h2⟩⟩⟩, .wake rfl rfl ?_⟩
    rw [gl_at hb, gl_at hb, hL, hL]
    show _ + L _ o' r1' r3' + 1 + 71 ≤ _ + L _ o r1 r3 + 1
    omega
  | swap hr hv he hk hw hp =>
    subst he
    obtain ⟨h1, h2⟩ := hok _ _ _ _ _ _ hk
    have hf' := hf _ _ _ _ _ _ hk
    refine ⟨_, _, _, LS.inn hb hi' (cellK_ok hc) hn h1, ⟨_, _, _, _, _, rfl, .inr ⟨rfl, .inl ⟨c, hb, h2⟩⟩⟩, .swap hr hv rfl ?_ ?_⟩
    · rw [gw_at hb, hW _ _ _ hf']; exact hw
    · rw [gl_at hb, gl_at hb, hL, hL]
      show _ + L _ o' r1' r3' + 1 + 161 ≤ _ + L _ o r1 r3 + 1
      omega

end Go.Mac
end

/- Threads that ask a phaser: what a step of one comes to, whatever it asks. -/
section
open Go Go.Proofs Go.Mac
set_option maxRecDepth 100000
namespace Go.Mac

theorem gc_arr {l : List CallZ} {j : Nat} {c : CallZ} (hb : l[j]? = some c) {more fail : Int} (hmore : more = -1 ∨ more = -65537) (hfail : 30 ≤ fail)
    (hB : ∀ (o : Nat) (i : InsZ), (arriveI 0 more fail)[o]? = some i → (bodyG c)[o]? = some i) (hok : ∀ v o r1 r2 r3 r4, o ≤ 28 → arrOk more v o r1 r2 r3 r4 → gOk c v o r1 r2 r3 r4) (hok29 : ∀ v r1 r2 r3 r4, gOk c v 29 r1 r2 r3 r4) (hokf : ∀ v r1 r2 r3 r4, gOk c v fail.toNat r1 r2 r3 r4)
    (hlen : 29 < (bodyG c).length ∧ fail.toNat < (bodyG c).length) (hW : ∀ o r2 r3, o ≤ 28 → gW c o r2 r3 = arrW o r2 r3) (hL : ∀ v o r1 r3, o ≤ 28 → gL c v o r1 r3 = arrL v o r1 r3) (hL29 : ∀ v r1 r3, gL c v 29 r1 r3 ≤ 8) (hLf : ∀ v r1 r3, gL c v fail.toNat r1 r3 ≤ 1)
    {v : Int} (hv : WD v v) {o : Nat} (ho : o ≤ 28) {r1 r2 r3 r4 r5 : Int} (hk : arrOk more v o r1 r2 r3 r4) : GcS l ⟨j, ⟨o, [0, r1, r2, r3, r4, r5, 0, 0], false⟩⟩ v := by
  obtain ⟨i, o', r1', r2', r3', r4', r5', v', e, hi, hc, hn, hout⟩ := arr_step (r5 := r5) hmore hfail ho hv hk
  have hi' := hB o i hi
  cases hout with
  | inn hv he ho' hk' hw hp =>
    subst hv
    refine ⟨_, _, _, LS.inn hb hi' (cellK_ok hc) hn (by omega), ⟨_, _, _, _, _, rfl, .inr ⟨rfl, .inl ⟨c, hb, hok _ _ _ _ _ _ ho' hk'⟩⟩⟩, .quiet rfl (by rcases he with h | h; exact .inl h; exact .inr (.inr h)) ?_ ?_⟩
    · rw [gw_at hb, gw_at hb, hW _ _ _ ho, hW _ _ _ ho']; exact hw
    · rw [gl_at hb, gl_at hb, hL _ _ _ _ ho, hL _ _ _ _ ho']
      show _ + arrL _ o' r1' r3' + 1 + 1 ≤ _ + arrL _ o r1 r3 + 1
      omega
  | out hv he ho' hw hp hq =>
    subst hv he
    have hnw : gwG l ⟨j, ⟨o, [0, r1, r2, r3, r4, r5, 0, 0], false⟩⟩ = false := by rw [gw_at hb, hW _ _ _ ho]; exact hw
    rcases ho' with h | h
    · subst h
      have hq := hq rfl
      refine ⟨_, _, _, LS.inn hb hi' (cellK_ok hc) hn hlen.1, ⟨_, _, _, _, _, rfl, .inr ⟨rfl, .inl ⟨c, hb, hok29 ..⟩⟩⟩, .quiet rfl (.inl rfl) (fun h => by rw [hnw] at h; cases h) ?_⟩
      have h8 := hL29 v' r1' r3'
      rw [gl_at hb, gl_at hb, hL _ _ _ _ ho]
      show _ + gL c _ 29 r1' r3' + 1 + 1 ≤ _ + arrL _ o r1 r3 + 1
      omega
    · subst h
      refine ⟨_, _, _, LS.inn hb hi' (cellK_ok hc) hn hlen.2, ⟨_, _, _, _, _, rfl, .inr ⟨rfl, .inl ⟨c, hb, hokf ..⟩⟩⟩, .quiet rfl (.inl rfl) (fun h => by rw [hnw] at h; cases h) ?_⟩
      have h8 := hLf v' r1' r3'
      rw [gl_at hb, gl_at hb, hL _ _ _ _ ho]
      show _ + gL c _ fail.toNat r1' r3' + 1 + 1 ≤ _ + arrL _ o r1 r3 + 1
      omega
  | wake hv he ho' =>
    subst hv he
    obtain ⟨rfl, rfl⟩ := ho'
    refine ⟨_, _, _, LS.inn hb hi' (cellK_ok hc) hn (by omega), ⟨_, _, _, _, _, rfl, .inr ⟨rfl, .inl ⟨c, hb, hok _ _ _ _ _ _ (show 24 ≤ 28 by decide) (by simp [arrOk, ovOk])⟩⟩⟩, .wake rfl rfl ?_⟩
    rw [gl_at hb, gl_at hb, hL _ _ _ _ (by decide), hL _ _ _ _ (by decide)]
    simp [arrL]
  | swap hr hv' he ho' hk' hw =>
    subst he
    obtain ⟨rfl, rfl, rfl, rfl⟩ := ho'
    refine ⟨_, _, _, LS.inn hb hi' (cellK_ok hc) hn (by omega), ⟨_, _, _, _, _, rfl, .inr ⟨rfl, .inl ⟨c, hb, hok _ _ _ _ _ _ (show 19 ≤ 28 by decide) hk'⟩⟩⟩, .swap hr hv' rfl ?_ ?_⟩
    · rw [gw_at hb, hW _ _ _ (by decide)]; exact hw
    · rw [gl_at hb, gl_at hb, hL _ _ _ _ (by decide), hL _ _ _ _ (by decide)]
      simp [arrL, rgZ, pen]

set_option maxHeartbeats 4000000 in
theorem gc_local {l : List CallZ} {g : GZ} {v : Int} (hv : WD v v) (hfit : ∀ c ∈ l, gFit c) (h : GcG l v g) (hd : g.y.dn = false) : GcS l g v := by
  obtain ⟨r1, r2, r3, r4, r5, hrg, hcase⟩ := h
  obtain ⟨j, o, rg, dn⟩ := g
  dsimp only at hd hrg hcase
  subst hd hrg
  rcases hcase with ⟨h1, _⟩ | ⟨_, ⟨c, hb, hok⟩ | ⟨rfl, rfl⟩⟩
  · cases h1
  · have hf := gfit_w (hfit c (List.mem_of_getElem? hb))
    obtain ⟨w, n⟩ := c
    dsimp only at hf
    rcases hf with ⟨rfl, hn⟩ | rfl | rfl | rfl | rfl | rfl
    · have hok : regOk n v o r1 r2 r3 r4 := hok
      have ho := hok.1
      have := gc_part (l := l) (j := j) (c := ⟨6, n⟩) hb (B := registerI 0 n) (ok := regOk n) (W := noW) (L := regL) (fin := 14) (q := 0) (sl := false) (fun h => by cases h) (fun o i h => by rw [Nat.zero_add]; exact h) (fun v o _ _ _ _ h => by rw [Nat.zero_add]; exact ⟨by have := h.1; show o < 15; omega, h⟩) rfl (fun _ _ _ _ => rfl) (fun _ _ _ _ _ _ h => h.1) (fun _ _ _ _ => by rw [Nat.zero_add]; rfl) ho (reg_step (r5 := r5) hn hv hok)
      rwa [Nat.zero_add] at this
    · obtain ⟨ho, hk⟩ : o ≤ 10 ∧ (1 ≤ o → awOk v (o - 1) r1 r2 r3 r4) := hok
      by_cases h0 : o = 0
      · subst h0
        refine ⟨_, _, _, LS.inn (i := ⟨1, 5, n, 0, 0⟩) (o' := 1) (rg' := [0, r1, r2, r3, r4, u64m n, 0, 0]) hb rfl (cellK_ok rfl) rfl (show 1 < 11 by decide), ⟨_, _, _, _, _, rfl, .inr ⟨rfl, .inl ⟨_, hb, ?_⟩⟩⟩, .quiet rfl (.inl rfl) (fun h => ?_) ?_⟩
        · show 1 ≤ 10 ∧ (1 ≤ 1 → awOk v (1 - 1) r1 r2 r3 r4)
          simp [awOk, ovOk]
        · rw [gw_at hb, gW_0] at h; cases h
        · rw [gl_at hb, gl_at hb]
          show _ + 8 + 1 + 1 ≤ _ + 30 + 1
          omega
      · obtain ⟨k, rfl⟩ : ∃ k, o = 1 + k := ⟨o - 1, by omega⟩
        have hk := hk (by omega)
        rw [Nat.add_sub_cancel_left] at hk
        exact gc_part (l := l) (j := j) (c := ⟨10, n⟩) hb (B := awaitI (1 : Nat)) (ok := awOk) (W := noW) (L := awL) (fin := 9) (q := 1) (sl := true) (fun _ => .inl ⟨rfl, rfl⟩) (get_right (A := [⟨1, 5, n, 0, 0⟩]) rfl) (fun v o _ _ _ _ h => by
            have h9 := h.1
            refine ⟨by show 1 + o < 11; omega, ?_⟩
            show 1 + o ≤ 10 ∧ (1 ≤ 1 + o → awOk v (1 + o - 1) _ _ _ _)
            rw [Nat.add_sub_cancel_left]
            exact ⟨by omega, fun _ => h⟩) rfl (fun _ _ _ _ => rfl) (fun _ _ _ _ _ _ h => h.1) (fun v o r1 r3 => by
            show (if 1 + o = 0 then 30 else awL v (1 + o - 1) r1 r3) = _
            rw [if_neg (by omega), Nat.add_sub_cancel_left]) hk.1 (aw_step (r5 := r5) 1 hv hk)
    · have hok : clsOk v o r1 r2 r3 r4 := hok
      have ho := hok.1
      have := gc_part (l := l) (j := j) (c := ⟨11, n⟩) hb (B := closesI 0) (ok := clsOk) (W := clsW) (L := clsL) (fin := 10) (q := 0) (sl := false) (fun h => by cases h) (fun o i h => by rw [Nat.zero_add]; exact h) (fun v o _ _ _ _ h => by rw [Nat.zero_add]; exact ⟨by have := h.1; show o < 11; omega, h⟩) rfl (fun _ _ _ _ => by rw [Nat.zero_add]; rfl) (fun _ _ _ _ _ _ h => h.1) (fun _ _ _ _ => by rw [Nat.zero_add]; rfl) ho (cls_step (r5 := r5) hv hok)
      rwa [Nat.zero_add] at this
    · obtain ⟨ho, hk, hk2⟩ : o ≤ 38 ∧ (o ≤ 28 → arrOk (-1) v o r1 r2 r3 r4) ∧ (29 ≤ o → awOk v (o - 29) r1 r2 r3 r4) := hok
      by_cases h28 : o ≤ 28
      · refine gc_arr hb (more := -1) (fail := 38) (.inl rfl) (by decide) get_left (fun v o r1 r2 r3 r4 h h' => ?_) (fun v r1 r2 r3 r4 => ?_) (fun v r1 r2 r3 r4 => ?_) ⟨show 29 < 39 by decide, show 38 < 39 by decide⟩ (fun o r2 r3 h => ?_) (fun v o r1 r3 h => ?_) (fun v r1 r3 => ?_) (fun v r1 r3 => ?_) hv h28 (hk h28)
        · exact ⟨by omega, fun _ => h', fun _ => by omega⟩
        · exact ⟨by decide, fun h => absurd h (by decide), fun _ => by simp [awOk, ovOk]⟩
        · exact ⟨by decide, fun h => absurd h (by decide), fun _ => by simp [awOk, ovOk]⟩
        · show (decide (o ≤ 28) && arrW o r2 r3) = _
          rw [decide_eq_true h]; rfl
        · show (if o ≤ 28 then _ else _) = _
          rw [if_pos h]
        · exact Nat.le_refl 8
        · exact Nat.le_refl 1
      · obtain ⟨k, rfl⟩ : ∃ k, o = 29 + k := ⟨o - 29, by omega⟩
        have hk2 := hk2 (by omega)
        rw [Nat.add_sub_cancel_left] at hk2
        exact gc_part (l := l) (j := j) (c := ⟨9, n⟩) hb (B := awaitI (29 : Nat)) (ok := awOk) (W := noW) (L := awL) (fin := 9) (q := 29) (sl := true) (fun _ => .inr ⟨rfl, rfl⟩) (get_right (A := arriveI 0 (-1) 38) rfl) (fun v o _ _ _ _ h => by
            have h9 := h.1
            refine ⟨by show 29 + o < 39; omega, by omega, fun h => by omega, fun _ => ?_⟩
            rw [Nat.add_sub_cancel_left]
            exact h) rfl (fun o r2 r3 _ => by
            show (decide (29 + o ≤ 28) && arrW (29 + o) r2 r3) = false
            rw [decide_eq_false (by omega)]; rfl) (fun _ _ _ _ _ _ h => h.1) (fun v o r1 r3 => by
            show (if 29 + o ≤ 28 then _ else awL v (29 + o - 29) r1 r3) = _
            rw [if_neg (by omega), Nat.add_sub_cancel_left]) hk2.1 (aw_step (r5 := r5) 29 hv hk2)
    · obtain ⟨ho, hk⟩ : o ≤ 30 ∧ (o ≤ 28 → arrOk (-65537) v o r1 r2 r3 r4) := hok
      by_cases h28 : o ≤ 28
      · refine gc_arr hb (more := -65537) (fail := 30) (.inr rfl) (by decide) get_left (fun v o r1 r2 r3 r4 h h' => ?_) (fun v r1 r2 r3 r4 => ?_) (fun v r1 r2 r3 r4 => ?_) ⟨show 29 < 31 by decide, show 30 < 31 by decide⟩ (fun o r2 r3 h => ?_) (fun v o r1 r3 h => ?_) (fun v r1 r3 => ?_) (fun v r1 r3 => ?_) hv h28 (hk h28)
        · exact ⟨by omega, fun _ => h'⟩
        · exact ⟨by decide, fun h => absurd h (by decide)⟩
        · exact ⟨by decide, fun h => absurd h (by decide)⟩
        · show (decide (o ≤ 28) && arrW o r2 r3) = _
          rw [decide_eq_true h]; rfl
        · show (if o ≤ 28 then _ else _) = _
          rw [if_pos h]
        · exact (show 2 ≤ 8 by decide)
        · exact Nat.le_refl 1
      · rcases (show o = 29 ∨ o = 30 by omega) with rfl | rfl
        · refine ⟨_, _, _, LS.inn (i := ⟨2, 2, 5, 0, 0⟩) (o' := 30) (rg' := [0, r1, r5, r3, r4, r5, 0, 0]) hb rfl (cellK_ok rfl) rfl (show 30 < 31 by decide), ⟨_, _, _, _, _, rfl, .inr ⟨rfl, .inl ⟨_, hb, ?_⟩⟩⟩, .quiet rfl (.inl rfl) (fun h => ?_) ?_⟩
          · exact ⟨(show 30 ≤ 30 by decide), fun h => absurd (show 30 ≤ 28 from h) (by decide)⟩
          · rw [gw_at hb] at h; cases h
          · rw [gl_at hb, gl_at hb]
            show _ + 1 + 1 + 1 ≤ _ + 2 + 1
            omega
        · refine ⟨_, _, _, LS.out (i := ⟨16, 3, 2, 0, 0⟩) (o' := 31) (rg' := [0, r1, r2, r3, r4, r5, 0, 0]) hb rfl (cellK_ok rfl) rfl rfl, gc_G0 hb _ _ _ _ _ _, .quiet rfl (.inr (.inl ⟨_, _, rfl⟩)) (fun h => ?_) ?_⟩
          · rw [gw_at hb] at h; cases h
          · have := gl_0 v l (j + 1) [0, r1, r2, r3, r4, r5, 0, 0]
            rw [gl_at hb]
            show _ + 1 ≤ _ + 1 + 1
            omega
    · obtain ⟨ho, hk⟩ : o ≤ 30 ∧ (o ≤ 28 → arrOk (-1) v o r1 r2 r3 r4) := hok
      by_cases h28 : o ≤ 28
      · refine gc_arr hb (more := -1) (fail := 30) (.inl rfl) (by decide) get_left (fun v o r1 r2 r3 r4 h h' => ?_) (fun v r1 r2 r3 r4 => ?_) (fun v r1 r2 r3 r4 => ?_) ⟨show 29 < 31 by decide, show 30 < 31 by decide⟩ (fun o r2 r3 h => ?_) (fun v o r1 r3 h => ?_) (fun v r1 r3 => ?_) (fun v r1 r3 => ?_) hv h28 (hk h28)
        · exact ⟨by omega, fun _ => h'⟩
        · exact ⟨by decide, fun h => absurd h (by decide)⟩
        · exact ⟨by decide, fun h => absurd h (by decide)⟩
        · show (decide (o ≤ 28) && arrW o r2 r3) = _
          rw [decide_eq_true h]; rfl
        · show (if o ≤ 28 then _ else _) = _
          rw [if_pos h]
        · exact (show 2 ≤ 8 by decide)
        · exact Nat.le_refl 1
      · rcases (show o = 29 ∨ o = 30 by omega) with rfl | rfl
        · refine ⟨_, _, _, LS.inn (i := ⟨2, 2, 5, 0, 0⟩) (o' := 30) (rg' := [0, r1, r5, r3, r4, r5, 0, 0]) hb rfl (cellK_ok rfl) rfl (show 30 < 31 by decide), ⟨_, _, _, _, _, rfl, .inr ⟨rfl, .inl ⟨_, hb, ?_⟩⟩⟩, .quiet rfl (.inl rfl) (fun h => ?_) ?_⟩
          · exact ⟨(show 30 ≤ 30 by decide), fun h => absurd (show 30 ≤ 28 from h) (by decide)⟩
          · rw [gw_at hb] at h; cases h
          · rw [gl_at hb, gl_at hb]
            show _ + 1 + 1 + 1 ≤ _ + 2 + 1
            omega
        · refine ⟨_, _, _, LS.out (i := ⟨16, 3, 2, 0, 0⟩) (o' := 31) (rg' := [0, r1, r2, r3, r4, r5, 0, 0]) hb rfl (cellK_ok rfl) rfl rfl, gc_G0 hb _ _ _ _ _ _, .quiet rfl (.inr (.inl ⟨_, _, rfl⟩)) (fun h => ?_) ?_⟩
          · rw [gw_at hb] at h; cases h
          · have := gl_0 v l (j + 1) [0, r1, r2, r3, r4, r5, 0, 0]
            rw [gl_at hb]
            show _ + 1 ≤ _ + 1 + 1
            omega
  · have hno : l[l.length]? = none := by simp
    refine ⟨_, _, _, LS.halt rfl, ⟨r1, r2, r3, r4, r5, rfl, .inl ⟨rfl, rfl⟩⟩, .quiet rfl (.inl rfl) (fun h => ?_) ?_⟩
    · simp [gwG] at h
    · simp [glG]

end Go.Mac
end
