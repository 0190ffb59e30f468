/- Threads that ask a phaser: words, facts of a thread's place, what is left to do. -/
import Derived.Test.YtlimhldkkbaohaaDoorQWay
import Derived.Test.YtlimhldkkbaohaaDoorQGather
import Derived.Test.YtlimhldkkbaohaaDoorQSemaE
open Go Go.Proofs Go.Mac
set_option maxRecDepth 100000
namespace Go.Mac

/-- A word that is not over, and may be. -/
def RW (r : Int) : Prop := 0 ≤ r ∧ r < 9223372036854775808 ∧ r % 65536 ≤ r / 65536 % 65536
/-- A word that was read: if it is over, so is what is there. -/
def WD (v r : Int) : Prop := 0 ≤ r ∧ r < 18446744073709551616 ∧ (r < 9223372036854775808 → RW r) ∧ (9223372036854775808 ≤ r → 9223372036854775808 ≤ v)

section
variable {r : Int} (h : 0 ≤ r ∧ r < 18446744073709551616)
include h

theorem gb_over : bitsZ r 63 1 = if 9223372036854775808 ≤ r then 1 else 0 := by
  have e1 : (2 : Int) ^ min (Int.toNat 63) 64 = 9223372036854775808 := rfl
  have e4 : r.fdiv 9223372036854775808 = r / 9223372036854775808 := Int.fdiv_eq_ediv_of_nonneg _ (by omega)
  have e5 : IntKind.u64.wrap (IntKind.u64.wrap (1 * 2 ^ min (Int.toNat 1) 64) - 1) = 1 := by decide
  rw [bitsZ, e1, e4, e5, and_z 1 _ 1 (by omega) (by omega) (by omega) (by omega), wrap_u64 _ (by omega) (by omega)]
  split <;> omega

theorem gb_wait : bitsZ r 0 16 = r % 65536 := by
  have e1 : (2 : Int) ^ min (Int.toNat 0) 64 = 1 := rfl
  have e4 : r.fdiv 1 = r := by rw [Int.fdiv_eq_ediv_of_nonneg _ (by omega)]; omega
  have e5 : IntKind.u64.wrap (IntKind.u64.wrap (1 * 2 ^ min (Int.toNat 16) 64) - 1) = 65535 := by decide
  rw [bitsZ, e1, e4, e5, and_z 16 _ 65535 (by omega) (by omega) (by omega) (by omega), wrap_u64 _ (by omega) (by omega)]
  rfl

theorem gb_part : bitsZ r 16 16 = r / 65536 % 65536 := by
  have e1 : (2 : Int) ^ min (Int.toNat 16) 64 = 65536 := rfl
  have e4 : r.fdiv 65536 = r / 65536 := Int.fdiv_eq_ediv_of_nonneg _ (by omega)
  have e5 : IntKind.u64.wrap (IntKind.u64.wrap (1 * 65536) - 1) = 65535 := by decide
  rw [bitsZ, e1, e4, e5, and_z 16 _ 65535 (by omega) (by omega) (by omega) (by omega), wrap_u64 _ (by omega) (by omega)]
  rfl

theorem gb_phase : bitsZ r 32 31 = r / 4294967296 % 2147483648 := by
  have e1 : (2 : Int) ^ min (Int.toNat 32) 64 = 4294967296 := rfl
  have e4 : r.fdiv 4294967296 = r / 4294967296 := Int.fdiv_eq_ediv_of_nonneg _ (by omega)
  have e5 : IntKind.u64.wrap (IntKind.u64.wrap (1 * 2 ^ min (Int.toNat 31) 64) - 1) = 2147483647 := by decide
  rw [bitsZ, e1, e4, e5, and_z 31 _ 2147483647 (by omega) (by omega) (by omega) (by omega), wrap_u64 _ (by omega) (by omega)]
  rfl

end

theorem um_add {a b : Int} : u64m (a + u64m b) = (a + b) % 18446744073709551616 := by
  rw [u64m, u64m, wrap_u64_mod, wrap_u64_mod]
  omega

/-- What holds at the places that look whether it is over. -/
def ovOk (v : Int) (o : Nat) (r1 r2 : Int) : Prop := (o = 1 ∨ o = 2 → WD v r1) ∧ (o = 2 → r2 = if 9223372036854775808 ≤ r1 then 1 else 0)

/-- Of an arrival: places up to the swap, and the swap's fate. -/
def arrOk (more v : Int) (o : Nat) (r1 r2 r3 r4 : Int) : Prop :=
  ovOk v o r1 r2 ∧ (3 ≤ o → o ≤ 18 → RW r1) ∧ (4 ≤ o → o ≤ 18 → r2 = r1 % 65536) ∧ (5 ≤ o → o ≤ 17 → r2 ≠ 0) ∧ (o = 6 ∨ o = 7 ∨ o = 8 ∨ o = 9 ∨ o = 10 → r4 = r1 + more) ∧ (o = 7 → r2 ≠ 1) ∧ (8 ≤ o → o ≤ 17 → r2 = 1) ∧
    (o = 9 ∨ o = 10 → r3 = r4 / 65536 % 65536) ∧ (o = 10 → r3 ≠ 0) ∧ (11 ≤ o → o ≤ 16 → RW r4) ∧ (o = 11 ∨ o = 12 ∨ o = 13 ∨ o = 15 → r4 / 4294967296 % 2147483648 = r1 / 4294967296 % 2147483648 ∧ r4 % 65536 = r4 / 65536 % 65536) ∧ (o = 12 ∨ o = 13 ∨ o = 15 → r3 = r1 / 4294967296 % 2147483648) ∧ (o = 13 → r3 ≠ 2147483647) ∧ (o = 15 → r3 = 2147483647) ∧ (o = 17 → RW r4) ∧
    (o = 18 → 0 ≤ r4 ∧ r4 < 18446744073709551616 ∧ (r4 < 9223372036854775808 → RW r4) ∧ (9223372036854775808 ≤ r4 → r2 = 1)) ∧ (o = 19 → r3 = 0 ∨ r3 = 1) ∧ (o = 23 → r2 = 1)

/-- Who is about to wake, on an arrival. -/
def arrW (o : Nat) (r2 r3 : Int) : Bool := (o == 19 && r3 == 1 && r2 == 1) || (o == 20 && r2 == 1) || (o == 21 && r2 == 1) || o == 23

def pen (v r1 : Int) : Nat := if r1 = v then 0 else 20

def arrL (v : Int) (o : Nat) (r1 r3 : Int) : Nat :=
  if o = 0 then 265 else if o ≤ 17 then 265 - o + pen v r1 else if o = 18 then 247 + pen v r1 else if o = 19 then (if r3 = 0 then 266 else 86) else if o = 20 then 85 else if o = 21 then 84 else if o = 22 then 83 else if o = 23 then 82 else if o = 24 then 10 else if o = 25 ∨ o = 27 then 4 else 3

theorem pen_mono (v w r1 : Int) : pen w r1 ≤ pen v r1 + 20 := by unfold pen; split <;> split <;> omega

theorem arrL_mono (v w : Int) (o : Nat) (r1 r3 : Int) : arrL w o r1 r3 ≤ arrL v o r1 r3 + 20 := by
  have := pen_mono v w r1
  unfold arrL
  repeat' split
  all_goals omega

/-- What a step of an arrival comes to: where it goes. -/
inductive ArrOut (more fail v : Int) (o : Nat) (r1 r2 r3 r4 r5 : Int) (o' : Nat) (r1' r2' r3' r4' r5' v' : Int) (e : EffW) : Prop
  | inn (hv : v' = v) (he : e = .no ∨ ∃ a b, e = .act a 0 b b) (ho : o' ≤ 28) (hok : arrOk more v o' r1' r2' r3' r4') (hw : arrW o r2 r3 = true → arrW o' r2' r3' = true) (hp : arrL v o' r1' r3' + 1 ≤ arrL v o r1 r3)
  | out (hv : v' = v) (he : e = .no) (ho : o' = 29 ∨ o' = fail.toNat) (hw : arrW o r2 r3 = false) (hp : 3 ≤ arrL v o r1 r3) (hq : o' = 29 → 10 ≤ arrL v o r1 r3)
  | wake (hv : v' = v) (he : e = .wake 0 16) (ho : o = 23 ∧ o' = 24)
  | swap (hr : RW v) (hv : 0 ≤ v' ∧ v' < 18446744073709551616 ∧ (v' < 9223372036854775808 → RW v')) (he : e = .act 9 0 v v') (ho : o = 18 ∧ o' = 19 ∧ r3' = 1 ∧ r1 = v) (hok : arrOk more v' o' r1' r2' r3' r4') (hw : 9223372036854775808 ≤ v' → arrW o' r2' r3' = true)

set_option maxHeartbeats 4000000 in
theorem arr_step {more fail v : Int} (hm : more = -1 ∨ more = -65537) (hf : 30 ≤ fail) {o : Nat} (ho : o ≤ 28) {r1 r2 r3 r4 r5 : Int} (hv : WD v v) (hok : arrOk more v o r1 r2 r3 r4) :
    ∃ i o' r1' r2' r3' r4' r5' v' e, (arriveI 0 more fail)[o]? = some i ∧ cellK 1 i = true ∧ nextW i ⟨o, [0, r1, r2, r3, r4, r5, 0, 0], false⟩ [v] = (⟨o', [0, r1', r2', r3', r4', r5', 0, 0], false⟩, [v'], e) ∧ ArrOut more fail v o r1 r2 r3 r4 r5 o' r1' r2' r3' r4' r5' v' e := by
  have go : ∀ {i : InsZ} {o' : Nat} {r1' r2' r3' r4' r5' v' : Int} {e : EffW}, (arriveI 0 more fail)[o]? = some i → cellK 1 i = true → nextW i ⟨o, [0, r1, r2, r3, r4, r5, 0, 0], false⟩ [v] = (⟨o', [0, r1', r2', r3', r4', r5', 0, 0], false⟩, [v'], e) → ArrOut more fail v o r1 r2 r3 r4 r5 o' r1' r2' r3' r4' r5' v' e →
      ∃ i o' r1' r2' r3' r4' r5' v' e, (arriveI 0 more fail)[o]? = some i ∧ cellK 1 i = true ∧ nextW i ⟨o, [0, r1, r2, r3, r4, r5, 0, 0], false⟩ [v] = (⟨o', [0, r1', r2', r3', r4', r5', 0, 0], false⟩, [v'], e) ∧ ArrOut more fail v o r1 r2 r3 r4 r5 o' r1' r2' r3' r4' r5' v' e := fun h1 h2 h3 h4 => ⟨_, _, _, _, _, _, _, _, _, h1, h2, h3, h4⟩
  rcases (show o = 0 ∨ o = 1 ∨ o = 2 ∨ o = 3 ∨ o = 4 ∨ o = 5 ∨ o = 6 ∨ o = 7 ∨ o = 8 ∨ o = 9 ∨ o = 10 ∨ o = 11 ∨ o = 12 ∨ o = 13 ∨ o = 14 ∨ o = 15 ∨ o = 16 ∨ o = 17 ∨ o = 18 ∨ o = 19 ∨ o = 20 ∨ o = 21 ∨ o = 22 ∨ o = 23 ∨ o = 24 ∨ o = 25 ∨ o = 26 ∨ o = 27 ∨ o = 28 by omega) with rfl | rfl | rfl | rfl | rfl | rfl | rfl | rfl | rfl | rfl | rfl | rfl | rfl | rfl | rfl | rfl | rfl | rfl | rfl | rfl | rfl | rfl | rfl | rfl | rfl | rfl | rfl | rfl | rfl <;> simp [arrOk, ovOk] at hok
  · refine go (o' := 1) (r1' := v) rfl rfl rfl (.inn rfl (.inr ⟨_, _, rfl⟩) (by decide) ?_ ?_ ?_)
    · simp [arrOk, ovOk]; exact hv
    · simp [arrW]
    · simp [arrL, pen]
  · have hb := gb_over (r := r1) ⟨hok.1, hok.2.1⟩
    refine go (o' := 2) (r2' := bitsZ r1 63 1) rfl rfl rfl (.inn rfl (.inl rfl) (by decide) ?_ ?_ ?_)
    · rw [hb]; simp [arrOk, ovOk]; exact hok
    · simp [arrW]
    · simp [arrL]; omega
  · obtain ⟨hw, h2⟩ := hok
    by_cases hov : 9223372036854775808 ≤ r1
    · rw [if_pos hov] at h2
      subst h2
      refine go (o' := 25) rfl rfl (nx_same rfl) (.inn rfl (.inl rfl) (by decide) ?_ ?_ ?_)
      · simp [arrOk, ovOk]
      · simp [arrW]
      · simp [arrL]; omega
    · rw [if_neg hov] at h2
      subst h2
      refine go (o' := 3) rfl rfl (nx_same' (fun e => absurd (show (0 : Int) = 1 from e) (by decide))) (.inn rfl (.inl rfl) (by decide) ?_ ?_ ?_)
      · simp [arrOk, ovOk]; exact hw.2.2.1 (by omega)
      · simp [arrW]
      · simp [arrL]; omega
  · obtain ⟨a1, a2, a3⟩ := hok
    have hb := gb_wait (r := r1) ⟨a1, by omega⟩
    refine go (o' := 4) (r2' := bitsZ r1 0 16) rfl rfl rfl (.inn rfl (.inl rfl) (by decide) ?_ ?_ ?_)
    · rw [hb]; simp [arrOk, ovOk]; exact ⟨a1, a2, a3⟩
    · simp [arrW]
    · simp [arrL]; omega
  · obtain ⟨hr, h2⟩ := hok
    by_cases h0 : r2 = 0
    · refine go (o' := 27) rfl rfl (nx_same h0) (.inn rfl (.inl rfl) (by decide) ?_ ?_ ?_)
      · simp [arrOk, ovOk]
      · simp [arrW]
      · simp [arrL]; omega
    · refine go (o' := 5) rfl rfl (nx_same' h0) (.inn rfl (.inl rfl) (by decide) ?_ ?_ ?_)
      · simp [arrOk, ovOk]; exact ⟨hr, h2, h0⟩
      · simp [arrW]
      · simp [arrL]; omega
  · obtain ⟨hr, h2, h0⟩ := hok
    have hr' := hr
    obtain ⟨a1, a2, a3⟩ := hr'
    have e : u64m (r1 + u64m more) = r1 + more := by rw [um_add]; rcases hm with rfl | rfl <;> omega
    refine go (o' := 6) (r4' := u64m (r1 + u64m more)) rfl rfl rfl (.inn rfl (.inl rfl) (by decide) ?_ ?_ ?_)
    · rw [e]; simp [arrOk, ovOk]; exact ⟨hr, h2, h0⟩
    · simp [arrW]
    · simp [arrL]; omega
  · obtain ⟨hr, h2, h0, h4⟩ := hok
    by_cases h1 : r2 = 1
    · refine go (o' := 8) rfl rfl (nx_same h1) (.inn rfl (.inl rfl) (by decide) ?_ ?_ ?_)
      · simp [arrOk, ovOk]; exact ⟨hr, h2, h0, h4, h1⟩
      · simp [arrW]
      · simp [arrL]; omega
    · refine go (o' := 7) rfl rfl (nx_same' h1) (.inn rfl (.inl rfl) (by decide) ?_ ?_ ?_)
      · simp [arrOk, ovOk]; exact ⟨hr, h2, h0, h4, h1⟩
      · simp [arrW]
      · simp [arrL]; omega
  · obtain ⟨hr, h2, h0, h4, h1⟩ := hok
    refine go (o' := 18) rfl rfl rfl (.inn rfl (.inl rfl) (by decide) ?_ ?_ ?_)
    · simp [arrOk, ovOk]
      have hr' := hr
      obtain ⟨a1, a2, a3⟩ := hr'
      refine ⟨hr, h2, ?_, ?_, fun _ => ⟨?_, ?_, ?_⟩, ?_⟩ <;> (try intro) <;> rcases hm with rfl | rfl <;> omega
    · simp [arrW]
    · simp [arrL, pen]; omega
  · obtain ⟨hr, h2, h0, h4, h1⟩ := hok
    have hr' := hr
    obtain ⟨a1, a2, a3⟩ := hr'
    have hb := gb_part (r := r4) (by rcases hm with rfl | rfl <;> omega)
    refine go (o' := 9) (r3' := bitsZ r4 16 16) rfl rfl rfl (.inn rfl (.inl rfl) (by decide) ?_ ?_ ?_)
    · rw [hb]; simp [arrOk, ovOk]; exact ⟨hr, h2, h0, h4, h1⟩
    · simp [arrW]
    · simp [arrL]; omega
  · obtain ⟨hr, h2, h0, h4, h1, h3⟩ := hok
    by_cases hz : r3 = 0
    · refine go (o' := 17) rfl rfl (nx_same hz) (.inn rfl (.inl rfl) (by decide) ?_ ?_ ?_)
      · simp [arrOk, ovOk]
        have hr' := hr
        obtain ⟨a1, a2, a3⟩ := hr'
        exact ⟨hr, h2, h0, h1, by rcases hm with rfl | rfl <;> omega, by rcases hm with rfl | rfl <;> omega, by rcases hm with rfl | rfl <;> omega⟩
      · simp [arrW]
      · simp [arrL]; omega
    · refine go (o' := 10) rfl rfl (nx_same' hz) (.inn rfl (.inl rfl) (by decide) ?_ ?_ ?_)
      · simp [arrOk, ovOk]; exact ⟨hr, h2, h0, h4, h1, h3, hz⟩
      · simp [arrW]
      · simp [arrL]; omega
  · obtain ⟨hr, h2, h0, h4, h1, h3, hz⟩ := hok
    have hr' := hr
    obtain ⟨a1, a2, a3⟩ := hr'
    have q1 : 0 ≤ r4 ∧ r4 < 9223372036854775808 ∧ r4 % 65536 = 0 ∧ r4 / 4294967296 % 2147483648 = r1 / 4294967296 % 2147483648 := by
      rcases hm with rfl | rfl <;> (refine ⟨?_, ?_, ?_, ?_⟩ <;> omega)
    have e : u64m (r4 + r3) = r4 + r3 := wrap_u64 _ (by omega) (by omega)
    refine go (o' := 11) (r4' := u64m (r4 + r3)) rfl rfl rfl (.inn rfl (.inl rfl) (by decide) ?_ ?_ ?_)
    · rw [e]; simp [arrOk, ovOk]
      have h3b : 0 ≤ r3 ∧ r3 < 65536 := by omega
      have e6 : (r4 + r3) / 65536 = r4 / 65536 := by omega
      have e7 : (r4 + r3) % 65536 = r3 := by omega
      have e8 : (r4 + r3) / 4294967296 = r4 / 4294967296 := by omega
      refine ⟨hr, h2, h0, h1, ⟨by omega, by omega, ?_⟩, ?_, ?_⟩
      · rw [e6, e7, h3]; exact Int.le_refl _
      · rw [e8]; exact q1.2.2.2
      · rw [e6, e7, h3]
    · simp [arrW]
    · simp [arrL]; omega
  · obtain ⟨hr, h2, h0, h1, hr4, hph, hwp⟩ := hok
    have hb := gb_phase (r := r1) ⟨hr.1, by have := hr.2.1; omega⟩
    refine go (o' := 12) (r3' := bitsZ r1 32 31) rfl rfl rfl (.inn rfl (.inl rfl) (by decide) ?_ ?_ ?_)
    · rw [hb]; simp [arrOk, ovOk]; exact ⟨hr, h2, h0, h1, hr4, hph, hwp⟩
    · simp [arrW]
    · simp [arrL]; omega
  · obtain ⟨hr, h2, h0, h1, hr4, ⟨hph, hwp⟩, h3⟩ := hok
    by_cases hw : r3 = 2147483647
    · refine go (o' := 15) rfl rfl (nx_same (hw.trans (by decide))) (.inn rfl (.inl rfl) (by decide) ?_ ?_ ?_)
      · simp [arrOk, ovOk]; exact ⟨hr, h2, h0, h1, hr4, ⟨hph, hwp⟩, h3, hw⟩
      · simp [arrW]
      · simp [arrL]; omega
    · refine go (o' := 13) rfl rfl (nx_same' (fun e => hw (e.trans (by decide)))) (.inn rfl (.inl rfl) (by decide) ?_ ?_ ?_)
      · simp [arrOk, ovOk]; exact ⟨hr, h2, h0, h1, hr4, ⟨hph, hwp⟩, h3, hw⟩
      · simp [arrW]
      · simp [arrL]; omega
  · obtain ⟨hr, h2, h0, h1, hr4, ⟨hph, hwp⟩, h3, hw⟩ := hok
    have hr4' := hr4
    obtain ⟨b1, b2, b3⟩ := hr4'
    have hc0 : r4 / 4294967296 < 2147483648 := by omega
    have hm0 : r4 / 4294967296 % 2147483648 = r4 / 4294967296 := Int.emod_eq_of_lt (by omega) hc0
    have hlt : r4 < 9223372032559808512 := by omega
    have e6 : (r4 + 4294967296) / 65536 = r4 / 65536 + 65536 := by omega
    have e7 : (r4 + 4294967296) % 65536 = r4 % 65536 := by omega
    have e : u64m (r4 + u64m 4294967296) = r4 + 4294967296 := by rw [um_add]; omega
    refine go (o' := 14) (r4' := u64m (r4 + u64m 4294967296)) rfl rfl rfl (.inn rfl (.inl rfl) (by decide) ?_ ?_ ?_)
    · rw [e]; simp [arrOk, ovOk]; exact ⟨hr, h2, h0, h1, by omega, by omega, by rw [e6, e7]; omega⟩
    · simp [arrW]
    · simp [arrL]; omega
  · obtain ⟨hr, h2, h0, h1, hr4⟩ := hok
    refine go (o' := 18) rfl rfl rfl (.inn rfl (.inl rfl) (by decide) ?_ ?_ ?_)
    · simp [arrOk, ovOk]; exact ⟨hr, h2, hr4.1, by have := hr4.2.1; omega, fun _ => hr4, fun _ => h1⟩
    · simp [arrW]
    · simp [arrL]; omega
  · obtain ⟨hr, h2, h0, h1, hr4, ⟨hph, hwp⟩, h3, hw⟩ := hok
    have hr4' := hr4
    obtain ⟨b1, b2, b3⟩ := hr4'
    have hc0 : r4 / 4294967296 < 2147483648 := by omega
    have hm0 : r4 / 4294967296 % 2147483648 = r4 / 4294967296 := Int.emod_eq_of_lt (by omega) hc0
    have hge : 9223372032559808512 ≤ r4 := by omega
    have e6 : (r4 - 9223372032559808512) / 65536 = r4 / 65536 - 140737488289792 := by omega
    have e7 : (r4 - 9223372032559808512) % 65536 = r4 % 65536 := by omega
    have e : u64m (r4 + u64m (-9223372032559808512)) = r4 - 9223372032559808512 := by rw [um_add]; omega
    refine go (o' := 16) (r4' := u64m (r4 + u64m (-9223372032559808512))) rfl rfl rfl (.inn rfl (.inl rfl) (by decide) ?_ ?_ ?_)
    · rw [e]; simp [arrOk, ovOk]; exact ⟨hr, h2, h0, h1, by omega, by omega, by rw [e6, e7]; omega⟩
    · simp [arrW]
    · simp [arrL]; omega
  · obtain ⟨hr, h2, h0, h1, hr4⟩ := hok
    refine go (o' := 18) rfl rfl rfl (.inn rfl (.inl rfl) (by decide) ?_ ?_ ?_)
    · simp [arrOk, ovOk]; exact ⟨hr, h2, hr4.1, by have := hr4.2.1; omega, fun _ => hr4, fun _ => h1⟩
    · simp [arrW]
    · simp [arrL]; omega
  · obtain ⟨hr, h2, h0, h1, hr4⟩ := hok
    have hr4' := hr4
    obtain ⟨b1, b2, b3⟩ := hr4'
    have e : u64m (r4 + u64m (-9223372036854775808)) = r4 + 9223372036854775808 := by rw [um_add]; omega
    refine go (o' := 18) (r4' := u64m (r4 + u64m (-9223372036854775808))) rfl rfl rfl (.inn rfl (.inl rfl) (by decide) ?_ ?_ ?_)
    · rw [e]; simp [arrOk, ovOk]; exact ⟨hr, h2, by omega, by omega, fun _ => by omega, fun _ => h1⟩
    · simp [arrW]
    · simp [arrL]; omega
  · obtain ⟨hr, h2, q1, q2, q3, q4⟩ := hok
    by_cases h1 : v = r1
    · subst h1
      refine go (o' := 19) (r3' := 1) (v' := r4) rfl rfl (nx_swap rfl) (.swap hr ⟨q1, q2, q3⟩ rfl ⟨rfl, rfl, rfl, rfl⟩ ?_ fun hov => ?_)
      · simp [arrOk, ovOk]
      · simp [arrW, q4 hov]
    · have h1' : ¬ r1 = v := fun e => h1 e.symm
      refine go (o' := 19) (r3' := 0) (v' := v) rfl rfl (nx_swap' h1) (.inn rfl (.inr ⟨_, _, rfl⟩) (by decide) ?_ ?_ ?_)
      · simp [arrOk, ovOk]
      · simp [arrW]
      · simp [arrL, pen, h1']
  · rcases hok with rfl | rfl
    · refine go (o' := 0) rfl rfl (nx_same rfl) (.inn rfl (.inl rfl) (by decide) ?_ ?_ ?_)
      · simp [arrOk, ovOk]
      · simp [arrW]
      · simp [arrL]
    · refine go (o' := 20) rfl rfl (nx_same' (fun e => absurd (show (1 : Int) = 0 from e) (by decide))) (.inn rfl (.inl rfl) (by decide) ?_ ?_ ?_)
      · simp [arrOk, ovOk]
      · simp [arrW]
      · simp [arrL]
  · refine go (o' := 21) (r5' := bitsZ r1 32 31) rfl rfl rfl (.inn rfl (.inl rfl) (by decide) ?_ ?_ ?_)
    · simp [arrOk, ovOk]
    · simp [arrW]
    · simp [arrL]
  · by_cases h1 : r2 = 1
    · refine go (o' := 23) rfl rfl (nx_same h1) (.inn rfl (.inl rfl) (by decide) ?_ ?_ ?_)
      · simp [arrOk, ovOk, h1]
      · simp [arrW]
      · simp [arrL]
    · refine go (o' := 22) rfl rfl (nx_same' h1) (.inn rfl (.inl rfl) (by decide) ?_ ?_ ?_)
      · simp [arrOk, ovOk]
      · simp [arrW, h1]
      · simp [arrL]
  · refine go (o' := 29) rfl rfl rfl (.out rfl rfl (.inl rfl) ?_ ?_ ?_) <;> simp [arrW, arrL]
  · exact go (o' := 24) rfl rfl rfl (.wake rfl rfl ⟨rfl, rfl⟩)
  · refine go (o' := 29) rfl rfl rfl (.out rfl rfl (.inl rfl) ?_ ?_ ?_) <;> simp [arrW, arrL]
  · refine go (o' := 26) (r2' := u64m (-1)) rfl rfl rfl (.inn rfl (.inl rfl) (by decide) ?_ ?_ ?_)
    · simp [arrOk, ovOk]
    · simp [arrW]
    · simp [arrL]
  · have hk : cellK 1 ⟨10, fail, 0, 0, 0⟩ = true := by simp [cellK]; omega
    refine go (o' := fail.toNat) rfl hk rfl (.out rfl rfl (.inr rfl) ?_ ?_ fun e => ?_)
    · simp [arrW]
    · simp [arrL]
    · omega
  · refine go (o' := 28) (r2' := u64m (-2)) rfl rfl rfl (.inn rfl (.inl rfl) (by decide) ?_ ?_ ?_)
    · simp [arrOk, ovOk]
    · simp [arrW]
    · simp [arrL]
  · have hk : cellK 1 ⟨10, fail, 0, 0, 0⟩ = true := by simp [cellK]; omega
    refine go (o' := fail.toNat) rfl hk rfl (.out rfl rfl (.inr rfl) ?_ ?_ fun e => ?_)
    · simp [arrW]
    · simp [arrL]
    · omega

end Go.Mac
