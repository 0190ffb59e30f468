/- Texts that belong together; the first of them: What a call's looks come to, and what a call that is over says. -/
import Derived.Test.YtlimhldkkbaohaaDoorQGcV
import Derived.Test.YtlimhldkkbaohaaDoorGLinA
import Derived.Test.YtlimhldkkbaohaaDoorGRepl
import Derived.Test.YtlimhldkkbaohaaDoorGLinB

/- What a call's looks come to, and what a call that is over says. -/
section
open Go Go.Proofs Go.Mac
set_option maxRecDepth 100000
namespace Go.Mac

/-! ### Words -/

/-- A word that may be. -/
def RV (r : Int) : Prop := 0 ≤ r ∧ r < 18446744073709551616 ∧ r % 65536 ≤ r / 65536 % 65536
def wPh (w : Int) : Ph := ⟨gO w, gPh w, gPa w, gWa w⟩
theorem RW.rv {r : Int} (h : RW r) : RV r := ⟨h.1, by have := h.2.1; omega, h.2.2⟩
theorem RV.rw {r : Int} (h : RV r) (h1 : r < 9223372036854775808) : RW r := ⟨h.1, h1, h.2.2⟩

theorem wPh_right {r : Int} (h : RV r) : (wPh r).right = true := by
  obtain ⟨h1, h2, h3⟩ := h
  refine pkRightB_iff.2 ?_
  show 0 ≤ r / 4294967296 % 2147483648 ∧ r / 4294967296 % 2147483648 < 2147483648 ∧ 0 ≤ r / 65536 % 65536 ∧ r / 65536 % 65536 ≤ 65535 ∧ 0 ≤ r % 65536 ∧ r % 65536 ≤ r / 65536 % 65536
  omega

theorem wPh_eq {r : Int} {o : Bool} {ph pa wa : Int} (h0 : decide (9223372036854775808 ≤ r) = o) (h1 : r / 4294967296 % 2147483648 = ph) (h2 : r / 65536 % 65536 = pa) (h3 : r % 65536 = wa) : wPh r = ⟨o, ph, pa, wa⟩ := by
  subst h0 h1 h2 h3
  rfl

/-- A call takes effect on a word, and is answered. -/
def EffA (c : CallZ) (x y n : Int) : Prop := phDo (wPh x) (rpAsk c false 0).w (rpAsk c false 0).n = some (wPh y, n)
/-- The second half of a Pass. -/
def Lat (n1 x n : Int) : Prop := phDo (wPh x) 10 (if n1 > 0 then n1 else 0) = some (wPh x, n)

theorem ask_ok {c : CallZ} (h : gFit c) : gFitB (rpAsk c false 0).w (rpAsk c false 0).n = true ∧ (rpAsk c false 0).w ≠ 9 := by
  obtain ⟨w, n⟩ := c
  rw [gFit] at h
  by_cases h9 : w = 9
  · subst h9
    have hn : n = 0 := by simpa [gFitB] using h
    subst hn
    exact ⟨rfl, by decide⟩
  · rw [rpAsk, if_neg h9]
    exact ⟨h, h9⟩

theorem eff_over {c : CallZ} {r : Int} (hf : gFit c) (h : RV r) (ho : 9223372036854775808 ≤ r) : EffA c r r (-1) := by
  obtain ⟨h1, h2⟩ := ask_ok hf
  have h3 := wPh_right h
  have h4 : (wPh r).o = true := decide_eq_true ho
  rw [EffA, phDo, if_neg (by rintro (h | h | h) <;> simp_all), if_pos h4]

theorem lat_over {n1 r : Int} (hn : 0 ≤ n1 ∧ n1 < 2147483648) (h : RV r) (ho : 9223372036854775808 ≤ r) : Lat n1 r (-1) := by
  have h3 := wPh_right h
  have h4 : (wPh r).o = true := decide_eq_true ho
  have h1 : gFitB 10 (if n1 > 0 then n1 else 0) = true := decide_eq_true (by split <;> omega)
  rw [Lat, phDo, if_neg (by rintro (h | h | h) <;> simp_all), if_pos h4]

theorem wPh_no {r : Int} (h : RW r) : wPh r = ⟨false, r / 4294967296 % 2147483648, r / 65536 % 65536, r % 65536⟩ := wPh_eq (decide_eq_false (by have := h.2.1; omega)) rfl rfl rfl

theorem lat_other {n1 r : Int} (hn : 0 ≤ n1 ∧ n1 < 2147483648) (h : RW r) (hp : r / 4294967296 % 2147483648 ≠ n1) : Lat n1 r (r / 4294967296 % 2147483648) := by
  have h3 := wPh_right h.rv
  have e : (if n1 > 0 then n1 else 0) = n1 := by split <;> omega
  have h1 : gFitB 10 n1 = true := decide_eq_true hn
  rw [Lat, e, phDo, if_neg (by rintro (h | h | h) <;> simp_all), wPh_no h]
  simp [hp]

theorem eff_watch {n r : Int} (hn : 0 ≤ n ∧ n < 2147483648) (h : RW r) (hp : r / 4294967296 % 2147483648 ≠ n) : EffA ⟨10, n⟩ r r (r / 4294967296 % 2147483648) := by
  have h3 := wPh_right h.rv
  have h1 : gFitB 10 n = true := decide_eq_true hn
  rw [EffA, show rpAsk ⟨10, n⟩ false 0 = ⟨10, n⟩ from rfl, phDo, if_neg (by rintro (h | h | h) <;> simp_all), wPh_no h]
  simp [hp]

theorem eff_full {n r : Int} (hn : 1 ≤ n ∧ n ≤ 65535) (h : RW r) (hp : 65535 - n < r / 65536 % 65536) : EffA ⟨6, n⟩ r r (-3) := by
  have h3 := wPh_right h.rv
  have h1 : gFitB 6 n = true := decide_eq_true hn
  have h2 : r / 65536 % 65536 + n > 65535 := by omega
  rw [EffA, show rpAsk ⟨6, n⟩ false 0 = ⟨6, n⟩ from rfl, phDo, if_neg (by rintro (h | h | h) <;> simp_all), wPh_no h]
  simp [h2]

theorem eff_reg {n r : Int} (hn : 1 ≤ n ∧ n ≤ 65535) (h : RW r) (hp : r / 65536 % 65536 + n ≤ 65535) : RV (r + 65537 * n) ∧ EffA ⟨6, n⟩ r (r + 65537 * n) (r / 4294967296 % 2147483648) := by
  have h3 := wPh_right h.rv
  have h1 : gFitB 6 n = true := decide_eq_true hn
  have h2 : ¬ r / 65536 % 65536 + n > 65535 := by omega
  obtain ⟨a1, a2, a3⟩ := h
  have e6 : (r + 65537 * n) / 65536 = r / 65536 + n := by omega
  have e7 : (r + 65537 * n) % 65536 = r % 65536 + n := by omega
  have d : ∀ x : Int, x / 4294967296 = x / 65536 / 65536 := fun x => by omega
  have e8 : (r + 65537 * n) / 4294967296 = r / 4294967296 := by rw [d, d, e6]; omega
  refine ⟨⟨by omega, by omega, by rw [e6, e7]; omega⟩, ?_⟩
  rw [EffA, show rpAsk ⟨6, n⟩ false 0 = ⟨6, n⟩ from rfl, phDo, if_neg (by rintro (h | h | h) <;> simp_all), wPh_no ⟨a1, a2, a3⟩, wPh_eq (r := r + 65537 * n) (o := false) (ph := r / 4294967296 % 2147483648) (pa := r / 65536 % 65536 + n) (wa := r % 65536 + n) (decide_eq_false (by omega)) (by rw [e8]) (by rw [e6]; omega) e7]
  simp [h2]

theorem eff_cls {n r : Int} (hf : gFit ⟨11, n⟩) (h : RW r) : RV (r + 9223372036854775808) ∧ EffA ⟨11, n⟩ r (r + 9223372036854775808) 0 := by
  have h3 := wPh_right h.rv
  have h1 : gFitB 11 n = true := hf
  obtain ⟨a1, a2, a3⟩ := h
  have e6 : (r + 9223372036854775808) / 65536 % 65536 = r / 65536 % 65536 := by omega
  have e7 : (r + 9223372036854775808) % 65536 = r % 65536 := by omega
  have e8 : (r + 9223372036854775808) / 4294967296 % 2147483648 = r / 4294967296 % 2147483648 := by omega
  refine ⟨⟨by omega, by omega, by rw [e6, e7]; omega⟩, ?_⟩
  rw [EffA, show rpAsk ⟨11, n⟩ false 0 = ⟨11, n⟩ from rfl, phDo, if_neg (by rintro (h | h | h) <;> simp_all), wPh_no ⟨a1, a2, a3⟩, wPh_eq (r := r + 9223372036854775808) (o := true) (decide_eq_true (by omega)) e8 e6 e7]
  simp

/-- Who arrives, or leaves. -/
def arrC (c : CallZ) (more : Int) : Prop := gFit c ∧ ((c.w = 7 ∧ more = -1) ∨ (c.w = 9 ∧ more = -1) ∨ (c.w = 8 ∧ more = -65537))

theorem arrC_ask {c : CallZ} {more : Int} (h : arrC c more) : ∃ w, rpAsk c false 0 = ⟨w, 0⟩ ∧ ((w = 7 ∧ more = -1) ∨ (w = 8 ∧ more = -65537)) := by
  obtain ⟨hf, h⟩ := h
  obtain ⟨w, n⟩ := c
  rcases h with ⟨h, rfl⟩ | ⟨h, rfl⟩ | ⟨h, rfl⟩ <;> (dsimp only at h; subst h; have hn : n = 0 := (by simpa [gFit, gFitB] using hf); subst hn)
  · exact ⟨7, rfl, .inl ⟨rfl, rfl⟩⟩
  · exact ⟨7, rfl, .inl ⟨rfl, rfl⟩⟩
  · exact ⟨8, rfl, .inr ⟨rfl, rfl⟩⟩

theorem eff_none {c : CallZ} {more r : Int} (hc : arrC c more) (h : RW r) (h0 : r % 65536 = 0) : EffA c r r (-2) := by
  have h3 := wPh_right h.rv
  obtain ⟨w, hw, hm⟩ := arrC_ask hc
  rw [EffA, hw]
  dsimp only
  rcases hm with ⟨rfl, _⟩ | ⟨rfl, _⟩
  · rw [phDo, if_neg (by rintro (h | h | h) <;> simp_all [gFitB]), wPh_no h]
    simp [h0]
  · rw [phDo, if_neg (by rintro (h | h | h) <;> simp_all [gFitB]), wPh_no h]
    simp [h0]

/-- What comes of one who arrives or leaves, not the last one. -/
theorem eff_more {c : CallZ} {more r : Int} (hc : arrC c more) (h : RW r) (h0 : 2 ≤ r % 65536) : RV (r + more) ∧ r ≠ r + more ∧ EffA c r (r + more) (r / 4294967296 % 2147483648) := by
  have h3 := wPh_right h.rv
  obtain ⟨w, hw, hm⟩ := arrC_ask hc
  obtain ⟨a1, a2, a3⟩ := h
  have n0 : ¬ r % 65536 = 0 := by omega
  have n1 : r % 65536 - 1 > 0 := by omega
  rw [EffA, hw]
  dsimp only
  rcases hm with ⟨rfl, rfl⟩ | ⟨rfl, rfl⟩
  · refine ⟨⟨by omega, by omega, by omega⟩, by omega, ?_⟩
    rw [phDo, if_neg (by rintro (h | h | h) <;> simp_all [gFitB]), wPh_no ⟨a1, a2, a3⟩, wPh_eq (r := r + -1) (o := false) (ph := r / 4294967296 % 2147483648) (pa := r / 65536 % 65536) (wa := r % 65536 - 1) (decide_eq_false (by omega)) (by omega) (by omega) (by omega)]
    simp [n0, show 1 < r % 65536 by omega]
  · refine ⟨⟨by omega, by omega, by omega⟩, by omega, ?_⟩
    rw [phDo, if_neg (by rintro (h | h | h) <;> simp_all [gFitB]), wPh_no ⟨a1, a2, a3⟩, wPh_eq (r := r + -65537) (o := false) (ph := r / 4294967296 % 2147483648) (pa := r / 65536 % 65536 - 1) (wa := r % 65536 - 1) (decide_eq_false (by omega)) (by omega) (by omega) (by omega)]
    simp [n0, show 1 < r % 65536 by omega]

/-- What comes of the last one, who leaves nobody. -/
theorem eff_last {c : CallZ} {more r : Int} (hc : arrC c more) (h : RW r) (h1 : r % 65536 = 1) (hp : (r + more) / 65536 % 65536 = 0) : RV (r + more + 9223372036854775808) ∧ r ≠ r + more + 9223372036854775808 ∧ EffA c r (r + more + 9223372036854775808) (r / 4294967296 % 2147483648) := by
  have h3 := wPh_right h.rv
  obtain ⟨w, hw, hm⟩ := arrC_ask hc
  obtain ⟨a1, a2, a3⟩ := h
  rw [EffA, hw]
  dsimp only
  rcases hm with ⟨rfl, rfl⟩ | ⟨rfl, rfl⟩
  · exfalso; omega
  · have hpa : r / 65536 % 65536 = 1 := by omega
    refine ⟨⟨by omega, by omega, by omega⟩, by omega, ?_⟩
    rw [phDo, if_neg (by rintro (h | h | h) <;> simp_all [gFitB]), wPh_no ⟨a1, a2, a3⟩, wPh_eq (r := r + -65537 + 9223372036854775808) (o := true) (ph := r / 4294967296 % 2147483648) (pa := 0) (wa := 0) (decide_eq_true (by omega)) (by omega) (by omega) (by omega)]
    simp [h1, hpa]

theorem next_word {c : CallZ} {more r : Int} (hc : arrC c more) (h : RW r) (h1 : r % 65536 = 1) (hp : (r + more) / 65536 % 65536 ≠ 0) {y : Int} (hy : 0 ≤ y ∧ y < 9223372036854775808) (e1 : y / 4294967296 % 2147483648 = (r / 4294967296 % 2147483648 + 1) % 2147483648) (e2 : y / 65536 % 65536 = (r + more) / 65536 % 65536) (e3 : y % 65536 = (r + more) / 65536 % 65536) :
    RV y ∧ r ≠ y ∧ EffA c r y (r / 4294967296 % 2147483648) := by
  have h3 := wPh_right h.rv
  obtain ⟨w, hw, hm⟩ := arrC_ask hc
  obtain ⟨a1, a2, a3⟩ := h
  rw [EffA, hw]
  dsimp only
  refine ⟨⟨hy.1, by omega, by omega⟩, fun e => by subst e; omega, ?_⟩
  have hwy := wPh_eq (r := y) (o := false) (decide_eq_false (by omega)) e1 e2 e3
  rcases hm with ⟨rfl, rfl⟩ | ⟨rfl, rfl⟩
  · have hpa : (r + -1) / 65536 % 65536 = r / 65536 % 65536 := by omega
    rw [hpa] at hwy hp
    rw [phDo, if_neg (by rintro (h | h | h) <;> simp_all [gFitB]), wPh_no ⟨a1, a2, a3⟩, hwy]
    simp [h1, hp]
  · have hpa : (r + -65537) / 65536 % 65536 = r / 65536 % 65536 - 1 := by omega
    rw [hpa] at hwy hp
    rw [phDo, if_neg (by rintro (h | h | h) <;> simp_all [gFitB]), wPh_no ⟨a1, a2, a3⟩, hwy]
    simp [h1, hp]

/-- What comes of the last one: the next phase. -/
theorem eff_next {c : CallZ} {more r : Int} (hc : arrC c more) (h : RW r) (h1 : r % 65536 = 1) (hp : (r + more) / 65536 % 65536 ≠ 0) (hph : r / 4294967296 % 2147483648 ≠ 2147483647) :
    RV (r + more + (r + more) / 65536 % 65536 + 4294967296) ∧ r ≠ r + more + (r + more) / 65536 % 65536 + 4294967296 ∧ EffA c r (r + more + (r + more) / 65536 % 65536 + 4294967296) (r / 4294967296 % 2147483648) := by
  have hm : more = -1 ∨ more = -65537 := by rcases hc.2 with h | h | h <;> omega
  obtain ⟨a1, a2, a3⟩ := h
  have hb : 0 ≤ (r + more) / 65536 % 65536 ∧ (r + more) / 65536 % 65536 < 65536 := by omega
  have q1 : (r + more) % 65536 = 0 ∧ 0 ≤ r + more ∧ (r + more) / 4294967296 = r / 4294967296 := by rcases hm with rfl | rfl <;> omega
  generalize hP : (r + more) / 65536 % 65536 = P at hb hp
  have q2 : (r + more + P + 4294967296) / 4294967296 = r / 4294967296 + 1 := by omega
  have q5 : (r + more + P + 4294967296) / 65536 = (r + more) / 65536 + 65536 := by omega
  have q0 : r / 4294967296 < 2147483648 := by omega
  have q4 : r / 4294967296 % 2147483648 = r / 4294967296 := Int.emod_eq_of_lt (by omega) q0
  have q3 : r / 4294967296 < 2147483647 := by rw [q4] at hph; omega
  have := next_word (y := r + more + P + 4294967296) hc ⟨a1, a2, a3⟩ h1 (by rw [hP]; exact hp) (by omega) (by rw [q2, q4]) (by rw [hP, q5]; omega) (by rw [hP]; omega)
  exact this

theorem eff_wrap {c : CallZ} {more r : Int} (hc : arrC c more) (h : RW r) (h1 : r % 65536 = 1) (hp : (r + more) / 65536 % 65536 ≠ 0) (hph : r / 4294967296 % 2147483648 = 2147483647) :
    RV (r + more + (r + more) / 65536 % 65536 - 9223372032559808512) ∧ r ≠ r + more + (r + more) / 65536 % 65536 - 9223372032559808512 ∧ EffA c r (r + more + (r + more) / 65536 % 65536 - 9223372032559808512) (r / 4294967296 % 2147483648) := by
  have hm : more = -1 ∨ more = -65537 := by rcases hc.2 with h | h | h <;> omega
  obtain ⟨a1, a2, a3⟩ := h
  have hb : 0 ≤ (r + more) / 65536 % 65536 ∧ (r + more) / 65536 % 65536 < 65536 := by omega
  have q1 : (r + more) % 65536 = 0 ∧ 0 ≤ r + more ∧ (r + more) / 4294967296 = r / 4294967296 := by rcases hm with rfl | rfl <;> omega
  generalize hP : (r + more) / 65536 % 65536 = P at hb hp
  have q0 : r / 4294967296 < 2147483648 := by omega
  have q4 : r / 4294967296 % 2147483648 = r / 4294967296 := Int.emod_eq_of_lt (by omega) q0
  have q3 : r / 4294967296 = 2147483647 := by rw [q4] at hph; exact hph
  have q2 : (r + more + P - 9223372032559808512) / 4294967296 = 0 := by omega
  have q5 : (r + more + P - 9223372032559808512) / 65536 = (r + more) / 65536 - 140737488289792 := by omega
  have := next_word (y := r + more + P - 9223372032559808512) hc ⟨a1, a2, a3⟩ h1 (by rw [hP]; exact hp) (by omega) (by rw [q2, hph]; decide) (by rw [hP, q5]; omega) (by rw [hP]; omega)
  exact this

/-! ### Looks -/

/-- What a call's acts came to: none; those that changed nothing, the last one; the one that changed the cell; and the last one behind it. -/
inductive LkQ where
  | q0
  | q1 (a : ActZ)
  | q2 (a : ActZ)
  | q3 (a b : ActZ)

def lkStep (q : LkQ) (a : ActZ) : LkQ :=
  if a.o = 9 ∧ a.x ≠ a.y then .q2 a
  else match q with
    | .q0 => .q1 a
    | .q1 _ => .q1 a
    | .q2 c => .q3 c a
    | .q3 c _ => .q3 c a

def LkQ.ef : LkQ → EfS
  | .q0 => .s0
  | .q1 a => .s1 a.w
  | .q2 a => .s2 a.w
  | .q3 a b => .s3 a.w b.w

def LkQ.chg : LkQ → Option ActZ
  | .q2 a => some a
  | .q3 a _ => some a
  | _ => none

def lkFold (t frm to : Int) (done : Bool) (q : LkQ) (l : List ActZ) : LkQ := l.foldl (fun s a => if hitB t frm to done a = true then lkStep s a else s) q
def lkRun (t frm to : Int) (done : Bool) (l : List ActZ) : LkQ := lkFold t frm to done .q0 l

theorem lkStep_ef (q : LkQ) (a : ActZ) : (lkStep q a).ef = efStep q.ef a := by
  unfold lkStep efStep
  split
  · rfl
  · cases q <;> rfl

theorem lkRun_ef (t frm to : Int) (done : Bool) (l : List ActZ) : (lkRun t frm to done l).ef = efRun t frm to done l := by
  have : ∀ (l : List ActZ) (q : LkQ), (lkFold t frm to done q l).ef = l.foldl (fun s a => if hitB t frm to done a = true then efStep s a else s) q.ef := by
    intro l
    induction l with
    | nil => intro q; rfl
    | cons a l ih =>
      intro q
      show (lkFold t frm to done (if hitB t frm to done a = true then lkStep q a else q) l).ef = _
      rw [ih, List.foldl_cons]
      congr 1
      split
      · exact lkStep_ef q a
      · rfl
  exact this l .q0

theorem lkRun_snoc (t frm to : Int) (done : Bool) (l : List ActZ) (a : ActZ) : lkRun t frm to done (l ++ [a]) = if hitB t frm to done a = true then lkStep (lkRun t frm to done l) a else lkRun t frm to done l := by
  rw [lkRun, lkFold, List.foldl_append]
  rfl

theorem lkStep_same {q : LkQ} {a : ActZ} (h : a.x = a.y) : lkStep q a = match q with
    | .q0 => .q1 a
    | .q1 _ => .q1 a
    | .q2 c => .q3 c a
    | .q3 c _ => .q3 c a := by
  unfold lkStep
  rw [if_neg fun h2 => h2.2 h]

theorem lkStep_chg {q : LkQ} {a : ActZ} (h : a.o = 9) (h2 : a.x ≠ a.y) : lkStep q a = .q2 a := by
  unfold lkStep
  rw [if_pos ⟨h, h2⟩]

/-- A call that is over says n. -/
def Said (c : CallZ) (n : Int) : LkQ → Prop
  | .q0 => False
  | .q1 a => a.x = a.y ∧ EffA c a.x a.y n
  | .q2 a => c.w ≠ 9 ∧ EffA c a.x a.y n
  | .q3 a b => c.w = 9 ∧ b.x = b.y ∧ ∃ n1, EffA c a.x a.y n1 ∧ Lat n1 b.x n ∧ n ≠ -4

/-- Nothing changed so far. -/
def qNo : LkQ → Prop
  | .q0 => True
  | .q1 a => a.x = a.y
  | _ => False
/-- Nothing changed so far; the last look saw r. -/
def qLk (q : LkQ) (r : Int) : Prop :=
  match q with
  | .q1 a => a.x = r ∧ a.y = r
  | _ => False
/-- It changed, and nothing was seen since. -/
def qCh (c : CallZ) (q : LkQ) (n : Int) : Prop :=
  match q with
  | .q2 a => EffA c a.x a.y n
  | _ => False
/-- A call that goes on. -/
def Half (c : CallZ) : LkQ → Prop
  | .q0 => True
  | .q1 a => a.x = a.y
  | .q2 a => ∃ n, EffA c a.x a.y n
  | .q3 a _ => c.w = 9 ∧ ∃ n, EffA c a.x a.y n

theorem qLk.no {q : LkQ} {r : Int} (h : qLk q r) : qNo q := by
  cases q <;> first | exact h.1.trans h.2.symm | exact h.elim

theorem qNo.look {q : LkQ} (h : qNo q) {a : ActZ} {v : Int} (hx : a.x = v) (hy : a.y = v) : qLk (lkStep q a) v := by
  rw [lkStep_same (hx.trans hy.symm)]
  cases q <;> first | exact ⟨hx, hy⟩ | exact h.elim

theorem qNo.chg {q : LkQ} (h : qNo q) : q.chg = none := by
  cases q <;> first | rfl | exact h.elim

theorem qNo.half {q : LkQ} {c : CallZ} (h : qNo q) : Half c q := by
  cases q <;> first | trivial | exact h | exact h.elim

theorem qCh.half {q : LkQ} {c : CallZ} {n : Int} (h : qCh c q n) : Half c q := by
  cases q <;> first | exact ⟨n, h⟩ | exact h.elim

theorem qCh.of {c : CallZ} {a : ActZ} {q : LkQ} {n : Int} (h9 : a.o = 9) (hne : a.x ≠ a.y) (h : EffA c a.x a.y n) : qCh c (lkStep q a) n := by
  rw [lkStep_chg h9 hne]
  exact h

theorem qLk.said {q : LkQ} {c : CallZ} {r n : Int} (h : qLk q r) (he : EffA c r r n) : Said c n q := by
  cases q with
  | q1 a =>
    obtain ⟨rfl, h2⟩ := h
    refine ⟨h2.symm, ?_⟩
    rw [h2]
    exact he
  | _ => exact h.elim

theorem qCh.said {q : LkQ} {c : CallZ} {n : Int} (h : qCh c q n) (h9 : c.w ≠ 9) : Said c n q := by
  cases q <;> first | exact ⟨h9, h⟩ | exact h.elim

theorem Said.half {q : LkQ} {c : CallZ} {n : Int} (h : Said c n q) : Half c q := by
  cases q with
  | q0 => exact h.elim
  | q1 a => exact h.1
  | q2 a => exact ⟨n, h.2⟩
  | q3 a b =>
    obtain ⟨h9, _, n1, h, _⟩ := h
    exact ⟨h9, n1, h⟩

end Go.Mac
end

/- Calls of a phaser, place by place: what was seen, what changed, what is to be said. -/
section
open Go Go.Proofs Go.Mac
set_option maxRecDepth 100000
namespace Go.Mac

abbrev phZ (r : Int) : Int := r / 4294967296 % 2147483648
abbrev paZ (r : Int) : Int := r / 65536 % 65536
abbrev waZ (r : Int) : Int := r % 65536
def ovr (r r2 : Int) : Prop := r2 = if 9223372036854775808 ≤ r then 1 else 0

/-- Somebody else is to arrive, or not. -/
def arrP (more : Int) (r1 r2 : Int) (q : LkQ) : Prop := RW r1 ∧ qLk q r1 ∧ r2 = waZ r1 ∧ r2 ≠ 0
def arrN (more : Int) (r1 r2 r4 : Int) (q : LkQ) : Prop := arrP more r1 r2 q ∧ r2 = 1 ∧ paZ (r1 + more) ≠ 0 ∧ r4 = r1 + more + paZ (r1 + more)

def arrQ (more : Int) (c : CallZ) (o : Nat) (r1 r2 r3 r4 r5 : Int) (q : LkQ) : Prop :=
  match o with
  | 0 => qNo q
  | 1 => RV r1 ∧ qLk q r1
  | 2 => RV r1 ∧ qLk q r1 ∧ ovr r1 r2
  | 3 => RW r1 ∧ qLk q r1
  | 4 => RW r1 ∧ qLk q r1 ∧ r2 = waZ r1
  | 5 => arrP more r1 r2 q
  | 6 => arrP more r1 r2 q ∧ r4 = r1 + more
  | 7 => arrP more r1 r2 q ∧ r4 = r1 + more ∧ r2 ≠ 1
  | 8 => arrP more r1 r2 q ∧ r4 = r1 + more ∧ r2 = 1
  | 9 => arrP more r1 r2 q ∧ r4 = r1 + more ∧ r2 = 1 ∧ r3 = paZ r4
  | 10 => arrP more r1 r2 q ∧ r4 = r1 + more ∧ r2 = 1 ∧ r3 = paZ r4 ∧ r3 ≠ 0
  | 11 => arrN more r1 r2 r4 q
  | 12 => arrN more r1 r2 r4 q ∧ r3 = phZ r1
  | 13 => arrN more r1 r2 r4 q ∧ phZ r1 ≠ 2147483647
  | 14 => RW r1 ∧ qLk q r1 ∧ RV r4 ∧ r1 ≠ r4 ∧ EffA c r1 r4 (phZ r1) ∧ (9223372036854775808 ≤ r4 ∨ phZ r4 ≠ phZ r1 → r2 = 1)
  | 15 => arrN more r1 r2 r4 q ∧ phZ r1 = 2147483647
  | 16 => RW r1 ∧ qLk q r1 ∧ RV r4 ∧ r1 ≠ r4 ∧ EffA c r1 r4 (phZ r1) ∧ (9223372036854775808 ≤ r4 ∨ phZ r4 ≠ phZ r1 → r2 = 1)
  | 17 => arrP more r1 r2 q ∧ r4 = r1 + more ∧ r2 = 1 ∧ paZ (r1 + more) = 0
  | 18 => RW r1 ∧ qLk q r1 ∧ RV r4 ∧ r1 ≠ r4 ∧ EffA c r1 r4 (phZ r1) ∧ (9223372036854775808 ≤ r4 ∨ phZ r4 ≠ phZ r1 → r2 = 1)
  | 19 => (r3 = 0 ∧ qNo q) ∨ (r3 = 1 ∧ RW r1 ∧ qCh c q (phZ r1))
  | 20 => RW r1 ∧ qCh c q (phZ r1)
  | 21 => (0 ≤ r5 ∧ r5 < 2147483648) ∧ qCh c q r5
  | 22 => (0 ≤ r5 ∧ r5 < 2147483648) ∧ qCh c q r5
  | 23 => (0 ≤ r5 ∧ r5 < 2147483648) ∧ qCh c q r5
  | 24 => (0 ≤ r5 ∧ r5 < 2147483648) ∧ qCh c q r5
  | 25 => Said c (-1) q
  | 26 => Said c (-1) q ∧ r2 = 18446744073709551615
  | 27 => Said c (-2) q
  | 28 => Said c (-2) q ∧ r2 = 18446744073709551614
  | _ => False

/-- Who awaits another phase than r5. -/
def aw0 (c : CallZ) (r5 : Int) (q : LkQ) : Prop :=
  (0 ≤ r5 ∧ r5 < 2147483648) ∧ ((c.w = 9 ∧ match q with
    | .q2 a => EffA c a.x a.y r5
    | .q3 a b => EffA c a.x a.y r5 ∧ b.x = b.y
    | _ => False) ∨ (c.w = 10 ∧ r5 = c.n ∧ qNo q))
def aw1 (c : CallZ) (r1 r5 : Int) (q : LkQ) : Prop :=
  (0 ≤ r5 ∧ r5 < 2147483648) ∧ ((c.w = 9 ∧ match q with
    | .q3 a b => EffA c a.x a.y r5 ∧ b.x = r1 ∧ b.y = r1
    | _ => False) ∨ (c.w = 10 ∧ r5 = c.n ∧ qLk q r1))

theorem aw0.look {c : CallZ} {r5 v : Int} {q : LkQ} (h : aw0 c r5 q) {a : ActZ} (hx : a.x = v) (hy : a.y = v) : aw1 c v r5 (lkStep q a) := by
  obtain ⟨hb, h | ⟨h10, h5, h⟩⟩ := h
  · obtain ⟨h9, h⟩ := h
    refine ⟨hb, .inl ⟨h9, ?_⟩⟩
    rw [lkStep_same (hx.trans hy.symm)]
    cases q with
    | q2 c => exact ⟨h, hx, hy⟩
    | q3 c d => exact ⟨h.1, hx, hy⟩
    | _ => exact h.elim
  · exact ⟨hb, .inr ⟨h10, h5, h.look hx hy⟩⟩

theorem aw1.zero {c : CallZ} {r1 r5 : Int} {q : LkQ} (h : aw1 c r1 r5 q) : aw0 c r5 q := by
  obtain ⟨hb, h | ⟨h10, h5, h⟩⟩ := h
  · obtain ⟨h9, h⟩ := h
    refine ⟨hb, .inl ⟨h9, ?_⟩⟩
    cases q with
    | q3 c d => exact ⟨h.1, h.2.1.trans h.2.2.symm⟩
    | _ => exact h.elim
  · exact ⟨hb, .inr ⟨h10, h5, h.no⟩⟩

theorem aw1.over {c : CallZ} {r1 r5 : Int} {q : LkQ} (hf : gFit c) (h : aw1 c r1 r5 q) (hr : RV r1) (ho : 9223372036854775808 ≤ r1) : Said c (-1) q := by
  obtain ⟨hb, h | ⟨h10, h5, h⟩⟩ := h
  · obtain ⟨h9, h⟩ := h
    cases q with
    | q3 a b =>
      obtain ⟨h1, rfl, h3⟩ := h
      exact ⟨h9, h3.symm, r5, h1, lat_over hb hr ho, by decide⟩
    | _ => exact h.elim
  · exact h.said (eff_over hf hr ho)

theorem aw1.other {c : CallZ} {r1 r5 : Int} {q : LkQ} (h : aw1 c r1 r5 q) (hr : RW r1) (ho : phZ r1 ≠ r5) : Said c (phZ r1) q := by
  obtain ⟨hb, h | ⟨h10, h5, h⟩⟩ := h
  · obtain ⟨h9, h⟩ := h
    cases q with
    | q3 a b =>
      obtain ⟨h1, rfl, h3⟩ := h
      exact ⟨h9, h3.symm, r5, h1, lat_other hb hr ho, by unfold phZ; omega⟩
    | _ => exact h.elim
  · subst h5
    obtain ⟨w, n⟩ := c
    dsimp only at h10
    subst h10
    exact h.said (eff_watch hb hr ho)

theorem aw0.half {c : CallZ} {r5 : Int} {q : LkQ} (h : aw0 c r5 q) : Half c q := by
  obtain ⟨hb, h | ⟨h10, h5, h⟩⟩ := h
  · obtain ⟨h9, h⟩ := h
    cases q with
    | q2 a => exact ⟨r5, h⟩
    | q3 a b => exact ⟨h9, r5, h.1⟩
    | _ => exact h.elim
  · exact h.half

def awQ (c : CallZ) (o : Nat) (r1 r2 r5 : Int) (q : LkQ) : Prop :=
  match o with
  | 0 => aw0 c r5 q
  | 1 => RV r1 ∧ aw1 c r1 r5 q
  | 2 => RV r1 ∧ aw1 c r1 r5 q ∧ ovr r1 r2
  | 3 => RW r1 ∧ aw1 c r1 r5 q
  | 4 => RW r1 ∧ aw1 c r1 r5 q ∧ r2 = phZ r1
  | 5 => (0 ≤ r2 ∧ r2 < 2147483648) ∧ Said c r2 q
  | 6 => RW r1 ∧ aw1 c r1 r5 q ∧ phZ r1 = r5
  | 7 => aw0 c r5 q
  | 8 => Said c (-1) q
  | 9 => Said c (IntKind.i64.wrap r2) q
  | _ => False

def regQ (c : CallZ) (o : Nat) (r1 r2 r3 r4 : Int) (q : LkQ) : Prop :=
  match o with
  | 0 => qNo q
  | 1 => RV r1 ∧ qLk q r1
  | 2 => RV r1 ∧ qLk q r1 ∧ ovr r1 r2
  | 3 => RW r1 ∧ qLk q r1
  | 4 => RW r1 ∧ qLk q r1 ∧ r2 = paZ r1
  | 5 => RW r1 ∧ qLk q r1 ∧ r2 = paZ r1 ∧ r3 = 65535 - c.n
  | 6 => RW r1 ∧ qLk q r1 ∧ paZ r1 + c.n ≤ 65535
  | 7 => RW r1 ∧ qLk q r1 ∧ RV r4 ∧ r1 ≠ r4 ∧ EffA c r1 r4 (phZ r1)
  | 8 => (r3 = 0 ∧ qNo q) ∨ (r3 = 1 ∧ RW r1 ∧ qCh c q (phZ r1))
  | 9 => RW r1 ∧ qCh c q (phZ r1)
  | 10 => (0 ≤ r2 ∧ r2 < 2147483648) ∧ Said c r2 q
  | 11 => Said c (-1) q
  | 12 => Said c (-1) q ∧ r2 = 18446744073709551615
  | 13 => Said c (-3) q
  | 14 => Said c (IntKind.i64.wrap r2) q
  | _ => False

def clsQ (c : CallZ) (o : Nat) (r1 r2 r3 r4 : Int) (q : LkQ) : Prop :=
  match o with
  | 0 => qNo q
  | 1 => RV r1 ∧ qLk q r1
  | 2 => RV r1 ∧ qLk q r1 ∧ ovr r1 r2
  | 3 => RW r1 ∧ qLk q r1
  | 4 => RW r1 ∧ qLk q r1 ∧ RV r4 ∧ r1 ≠ r4 ∧ EffA c r1 r4 0
  | 5 => (r3 = 0 ∧ qNo q) ∨ (r3 = 1 ∧ qCh c q 0)
  | 6 => qCh c q 0
  | 7 => qCh c q 0
  | 8 => qCh c q 0 ∧ r2 = 0
  | 9 => Said c (-1) q
  | 10 => Said c (IntKind.i64.wrap r2) q
  | _ => False

/-- What a step of a call comes to. -/
inductive QOut (c : CallZ) (ok : Nat → Int → Int → Int → Int → Int → LkQ → Prop) (fin : Nat) (q : LkQ) (v : Int) (o' : Nat) (r1' r2' r3' r4' r5' v' : Int) (e : EffW) : Prop
  | quiet (hv : v' = v) (he : e = .no ∨ (∃ k, e = .sleep k) ∨ ∃ k n, e = .wake k n) (hok : ok o' r1' r2' r3' r4' r5' q)
  | look (hv : v' = v) (he : ∃ x, e = .act x 0 v v) (hok : ∀ a : ActZ, a.x = v → a.y = v → ok o' r1' r2' r3' r4' r5' (lkStep q a))
  | swap (hq : q.chg = none) (hv : RV v') (hne : v ≠ v') (he : e = .act 9 0 v v') (hok : ∀ a : ActZ, a.o = 9 → a.x = v → a.y = v' → ok o' r1' r2' r3' r4' r5' (lkStep q a))
  | say (x : Int) (hv : v' = v) (he : e = .say 3 x) (ho : o' = fin + 1) (hs : Said c x q)

def QStep (B : List InsZ) (c : CallZ) (ok : Nat → Int → Int → Int → Int → Int → LkQ → Prop) (fin p : Nat) (q : LkQ) (v : Int) (o : Nat) (r1 r2 r3 r4 r5 : Int) : Prop :=
  ∃ i o' r1' r2' r3' r4' r5' v' e, B[o]? = some i ∧ cellK 1 i = true ∧ nextW i ⟨p + o, [0, r1, r2, r3, r4, r5, 0, 0], false⟩ [v] = (⟨p + o', [0, r1', r2', r3', r4', r5', 0, 0], false⟩, [v'], e) ∧ QOut c ok fin q v o' r1' r2' r3' r4' r5' v' e

theorem QStep.mk {B : List InsZ} {c : CallZ} {ok : Nat → Int → Int → Int → Int → Int → LkQ → Prop} {fin p : Nat} {q : LkQ} {v : Int} {o : Nat} {r1 r2 r3 r4 r5 : Int} {i : InsZ} {o' : Nat} {r1' r2' r3' r4' r5' v' : Int} {e : EffW} (h1 : B[o]? = some i) (h2 : cellK 1 i = true) (h3 : nextW i ⟨p + o, [0, r1, r2, r3, r4, r5, 0, 0], false⟩ [v] = (⟨p + o', [0, r1', r2', r3', r4', r5', 0, 0], false⟩, [v'], e)) (h4 : QOut c ok fin q v o' r1' r2' r3' r4' r5' v' e) : QStep B c ok fin p q v o r1 r2 r3 r4 r5 :=
  ⟨_, _, _, _, _, _, _, _, _, h1, h2, h3, h4⟩

theorem wr_ph {r : Int} (h : 0 ≤ r ∧ r < 2147483648) : IntKind.i64.wrap r = r := wrap_i64 _ (by omega) (by omega)

set_option maxHeartbeats 4000000 in
theorem regQ_step {c : CallZ} (hf : gFit c) (hn : c.w = 6) {v : Int} (hv : RV v) {o : Nat} {r1 r2 r3 r4 r5 : Int} {q : LkQ} (hok : regQ c o r1 r2 r3 r4 q) : QStep (registerI 0 c.n) c (fun o r1 r2 r3 r4 _ => regQ c o r1 r2 r3 r4) 14 0 q v o r1 r2 r3 r4 r5 := by
  obtain ⟨w, n⟩ := c
  dsimp only at hn
  subst hn
  have hn : 1 ≤ n ∧ n ≤ 65535 := of_decide_eq_true (show decide (1 ≤ n ∧ n ≤ 65535) = true from hf)
  have h9 : (CallZ.mk 6 n).w ≠ 9 := (by decide : (6 : Int) ≠ 9)
  rcases (show o = 0 ∨ o = 1 ∨ o = 2 ∨ o = 3 ∨ o = 4 ∨ o = 5 ∨ o = 6 ∨ o = 7 ∨ o = 8 ∨ o = 9 ∨ o = 10 ∨ o = 11 ∨ o = 12 ∨ o = 13 ∨ o = 14 ∨ 15 ≤ o by omega) with rfl | rfl | rfl | rfl | rfl | rfl | rfl | rfl | rfl | rfl | rfl | rfl | rfl | rfl | rfl | ho
  · have hok : qNo q := hok
    exact .mk (o' := 1) (r1' := v) rfl rfl rfl (.look rfl ⟨_, rfl⟩ fun a hx hy => ⟨hv, hok.look hx hy⟩)
  · obtain ⟨hr, hl⟩ := hok
    exact .mk (o' := 2) (r2' := bitsZ r1 63 1) rfl rfl rfl (.quiet rfl (.inl rfl) ⟨hr, hl, gb_over ⟨hr.1, hr.2.1⟩⟩)
  · obtain ⟨hr, hl, h2⟩ := hok
    rw [ovr] at h2
    by_cases ho : 9223372036854775808 ≤ r1
    · rw [if_pos ho] at h2
      subst h2
      exact .mk (o' := 11) rfl rfl (nx_same rfl) (.quiet rfl (.inl rfl) (hl.said (eff_over hf hr ho)))
    · rw [if_neg ho] at h2
      subst h2
      exact .mk (o' := 3) rfl rfl (nx_same' (fun e => absurd (show (0 : Int) = 1 from e) (by decide))) (.quiet rfl (.inl rfl) ⟨hr.rw (by omega), hl⟩)
  · obtain ⟨hr, hl⟩ := hok
    exact .mk (o' := 4) (r2' := bitsZ r1 16 16) rfl rfl rfl (.quiet rfl (.inl rfl) ⟨hr, hl, gb_part ⟨hr.1, hr.rv.2.1⟩⟩)
  · obtain ⟨hr, hl, h2⟩ := hok
    exact .mk (o' := 5) (r3' := u64m (65535 - n)) rfl rfl rfl (.quiet rfl (.inl rfl) ⟨hr, hl, h2, wrap_u64 _ (by omega) (by omega)⟩)
  · obtain ⟨hr, hl, rfl, rfl⟩ := hok
    by_cases hlt : 65535 - n < paZ r1
    · exact .mk (o' := 13) rfl rfl (nx_less hlt) (.quiet rfl (.inl rfl) (hl.said (eff_full hn hr hlt)))
    · exact .mk (o' := 6) rfl rfl (nx_less' hlt) (.quiet rfl (.inl rfl) ⟨hr, hl, by show paZ r1 + n ≤ 65535; omega⟩)
  · obtain ⟨hr, hl, h6⟩ := hok
    have h6 : paZ r1 + n ≤ 65535 := h6
    obtain ⟨e1, e2⟩ := eff_reg hn hr h6
    have e : u64m (r1 + u64m (65537 * n)) = r1 + 65537 * n := by rw [um_add]; have := e1.1; have := e1.2.1; omega
    refine .mk (o' := 7) (r4' := u64m (r1 + u64m (65537 * n))) rfl rfl rfl (.quiet rfl (.inl rfl) ?_)
    show RW r1 ∧ qLk q r1 ∧ RV (u64m (r1 + u64m (65537 * n))) ∧ r1 ≠ u64m (r1 + u64m (65537 * n)) ∧ EffA ⟨6, n⟩ r1 (u64m (r1 + u64m (65537 * n))) (phZ r1)
    rw [e]
    exact ⟨hr, hl, e1, by omega, e2⟩
  · obtain ⟨hr, hl, h4, hne, he⟩ := hok
    by_cases h1 : v = r1
    · subst h1
      exact .mk (o' := 8) (r3' := 1) (v' := r4) rfl rfl (nx_swap rfl) (.swap hl.no.chg h4 hne rfl fun a ha hx hy => .inr ⟨rfl, hr, .of ha (by rw [hx, hy]; exact hne) (by rw [hx, hy]; exact he)⟩)
    · exact .mk (o' := 8) (r3' := 0) (v' := v) rfl rfl (nx_swap' h1) (.look rfl ⟨_, rfl⟩ fun a hx hy => .inl ⟨rfl, (hl.no.look hx hy).no⟩)
  · rcases hok with ⟨rfl, hq⟩ | ⟨rfl, hr, hq⟩
    · exact .mk (o' := 0) rfl rfl (nx_same rfl) (.quiet rfl (.inl rfl) hq)
    · exact .mk (o' := 9) rfl rfl (nx_same' (fun e => absurd (show (1 : Int) = 0 from e) (by decide))) (.quiet rfl (.inl rfl) ⟨hr, hq⟩)
  · obtain ⟨hr, hq⟩ := hok
    refine .mk (o' := 10) (r2' := bitsZ r1 32 31) rfl rfl rfl (.quiet rfl (.inl rfl) ?_)
    show (0 ≤ bitsZ r1 32 31 ∧ bitsZ r1 32 31 < 2147483648) ∧ Said _ (bitsZ r1 32 31) q
    rw [gb_phase ⟨hr.1, hr.rv.2.1⟩]
    exact ⟨by omega, hq.said h9⟩
  · obtain ⟨hb, hs⟩ := hok
    refine .mk (o' := 14) rfl rfl rfl (.quiet rfl (.inl rfl) ?_)
    show Said _ (IntKind.i64.wrap r2) q
    rw [wr_ph hb]
    exact hs
  · have hs : Said _ (-1) q := hok
    exact .mk (o' := 12) (r2' := u64m (-1)) rfl rfl rfl (.quiet rfl (.inl rfl) ⟨hs, rfl⟩)
  · obtain ⟨hs, rfl⟩ := hok
    exact .mk (o' := 14) rfl rfl rfl (.quiet rfl (.inl rfl) hs)
  · have hs : Said _ (-3) q := hok
    exact .mk (o' := 14) (r2' := u64m (-3)) rfl rfl rfl (.quiet rfl (.inl rfl) hs)
  · have hs : Said _ (IntKind.i64.wrap r2) q := hok
    exact .mk (o' := 15) rfl rfl rfl (.say _ rfl rfl rfl hs)
  · exfalso
    unfold regQ at hok
    split at hok <;> first | omega | exact hok

set_option maxHeartbeats 4000000 in
theorem clsQ_step {c : CallZ} (hf : gFit c) (hn : c.w = 11) {v : Int} (hv : RV v) {o : Nat} {r1 r2 r3 r4 r5 : Int} {q : LkQ} (hok : clsQ c o r1 r2 r3 r4 q) : QStep (closesI 0) c (fun o r1 r2 r3 r4 _ => clsQ c o r1 r2 r3 r4) 10 0 q v o r1 r2 r3 r4 r5 := by
  obtain ⟨w, n⟩ := c
  dsimp only at hn
  subst hn
  have h9 : (CallZ.mk 11 n).w ≠ 9 := (by decide : (11 : Int) ≠ 9)
  rcases (show o = 0 ∨ o = 1 ∨ o = 2 ∨ o = 3 ∨ o = 4 ∨ o = 5 ∨ o = 6 ∨ o = 7 ∨ o = 8 ∨ o = 9 ∨ o = 10 ∨ 11 ≤ o by omega) with rfl | rfl | rfl | rfl | rfl | rfl | rfl | rfl | rfl | rfl | rfl | ho
  · have hok : qNo q := hok
    exact .mk (o' := 1) (r1' := v) rfl rfl rfl (.look rfl ⟨_, rfl⟩ fun a hx hy => ⟨hv, hok.look hx hy⟩)
  · obtain ⟨hr, hl⟩ := hok
    exact .mk (o' := 2) (r2' := bitsZ r1 63 1) rfl rfl rfl (.quiet rfl (.inl rfl) ⟨hr, hl, gb_over ⟨hr.1, hr.2.1⟩⟩)
  · obtain ⟨hr, hl, h2⟩ := hok
    rw [ovr] at h2
    by_cases ho : 9223372036854775808 ≤ r1
    · rw [if_pos ho] at h2
      subst h2
      exact .mk (o' := 9) rfl rfl (nx_same rfl) (.quiet rfl (.inl rfl) (hl.said (eff_over hf hr ho)))
    · rw [if_neg ho] at h2
      subst h2
      exact .mk (o' := 3) rfl rfl (nx_same' (fun e => absurd (show (0 : Int) = 1 from e) (by decide))) (.quiet rfl (.inl rfl) ⟨hr.rw (by omega), hl⟩)
  · obtain ⟨hr, hl⟩ := hok
    obtain ⟨e1, e2⟩ := eff_cls hf hr
    have e : u64m (r1 + u64m (-9223372036854775808)) = r1 + 9223372036854775808 := by rw [um_add]; have := hr.1; have := hr.2.1; omega
    refine .mk (o' := 4) (r4' := u64m (r1 + u64m (-9223372036854775808))) rfl rfl rfl (.quiet rfl (.inl rfl) ?_)
    show RW r1 ∧ qLk q r1 ∧ RV (u64m (r1 + u64m (-9223372036854775808))) ∧ r1 ≠ u64m (r1 + u64m (-9223372036854775808)) ∧ EffA ⟨11, n⟩ r1 (u64m (r1 + u64m (-9223372036854775808))) 0
    rw [e]
    exact ⟨hr, hl, e1, by omega, e2⟩
  · obtain ⟨hr, hl, h4, hne, he⟩ := hok
    by_cases h1 : v = r1
    · subst h1
      exact .mk (o' := 5) (r3' := 1) (v' := r4) rfl rfl (nx_swap rfl) (.swap hl.no.chg h4 hne rfl fun a ha hx hy => .inr ⟨rfl, .of ha (by rw [hx, hy]; exact hne) (by rw [hx, hy]; exact he)⟩)
    · exact .mk (o' := 5) (r3' := 0) (v' := v) rfl rfl (nx_swap' h1) (.look rfl ⟨_, rfl⟩ fun a hx hy => .inl ⟨rfl, (hl.no.look hx hy).no⟩)
  · rcases hok with ⟨rfl, hq⟩ | ⟨rfl, hq⟩
    · exact .mk (o' := 0) rfl rfl (nx_same rfl) (.quiet rfl (.inl rfl) hq)
    · exact .mk (o' := 6) rfl rfl (nx_same' (fun e => absurd (show (1 : Int) = 0 from e) (by decide))) (.quiet rfl (.inl rfl) hq)
  · exact .mk (o' := 7) rfl rfl rfl (.quiet rfl (.inr (.inr ⟨_, _, rfl⟩)) hok)
  · exact .mk (o' := 8) (r2' := u64m 0) rfl rfl rfl (.quiet rfl (.inl rfl) ⟨hok, rfl⟩)
  · obtain ⟨hq, rfl⟩ := hok
    exact .mk (o' := 10) rfl rfl rfl (.quiet rfl (.inl rfl) (hq.said h9))
  · have hs : Said _ (-1) q := hok
    exact .mk (o' := 10) (r2' := u64m (-1)) rfl rfl rfl (.quiet rfl (.inl rfl) hs)
  · have hs : Said _ (IntKind.i64.wrap r2) q := hok
    exact .mk (o' := 11) rfl rfl rfl (.say _ rfl rfl rfl hs)
  · exfalso
    unfold clsQ at hok
    split at hok <;> first | omega | exact hok

set_option maxHeartbeats 4000000 in
theorem awQ_step {c : CallZ} (hf : gFit c) (p : Nat) {v : Int} (hv : RV v) {o : Nat} {r1 r2 r3 r4 r5 : Int} {q : LkQ} (hok : awQ c o r1 r2 r5 q) : QStep (awaitI p) c (fun o r1 r2 _ _ r5 => awQ c o r1 r2 r5) 9 p q v o r1 r2 r3 r4 r5 := by
  have t8 : ((p : Int) + 8).toNat = p + 8 := by omega
  have t6 : ((p : Int) + 6).toNat = p + 6 := by omega
  have t9 : ((p : Int) + 9).toNat = p + 9 := by omega
  have c8 : cellK 1 ⟨11, 2, 1, (p : Int) + 8, 0⟩ = true := by simp [cellK]; omega
  have c6 : cellK 1 ⟨13, 2, 5, (p : Int) + 6, 0⟩ = true := by simp [cellK]; omega
  have c9 : cellK 1 ⟨10, (p : Int) + 9, 0, 0, 0⟩ = true := by simp [cellK]; omega
  have c0 : cellK 1 ⟨10, (p : Int), 0, 0, 0⟩ = true := by simp [cellK]
  rcases (show o = 0 ∨ o = 1 ∨ o = 2 ∨ o = 3 ∨ o = 4 ∨ o = 5 ∨ o = 6 ∨ o = 7 ∨ o = 8 ∨ o = 9 ∨ 10 ≤ o by omega) with rfl | rfl | rfl | rfl | rfl | rfl | rfl | rfl | rfl | rfl | ho
  · have hok : aw0 c r5 q := hok
    exact .mk (o' := 1) (r1' := v) rfl rfl rfl (.look rfl ⟨_, rfl⟩ fun a hx hy => ⟨hv, hok.look hx hy⟩)
  · obtain ⟨hr, hl⟩ := hok
    exact .mk (o' := 2) (r2' := bitsZ r1 63 1) rfl rfl rfl (.quiet rfl (.inl rfl) ⟨hr, hl, gb_over ⟨hr.1, hr.2.1⟩⟩)
  · obtain ⟨hr, hl, h2⟩ := hok
    rw [ovr] at h2
    by_cases ho : 9223372036854775808 ≤ r1
    · rw [if_pos ho] at h2
      subst h2
      exact .mk (o' := 8) rfl c8 ((nx_same rfl).trans (by rw [t8])) (.quiet rfl (.inl rfl) (hl.over hf hr ho))
    · rw [if_neg ho] at h2
      subst h2
      exact .mk (o' := 3) rfl c8 (nx_same' (fun e => absurd (show (0 : Int) = 1 from e) (by decide))) (.quiet rfl (.inl rfl) ⟨hr.rw (by omega), hl⟩)
  · obtain ⟨hr, hl⟩ := hok
    exact .mk (o' := 4) (r2' := bitsZ r1 32 31) rfl rfl rfl (.quiet rfl (.inl rfl) ⟨hr, hl, gb_phase ⟨hr.1, hr.rv.2.1⟩⟩)
  · obtain ⟨hr, hl, h2⟩ := hok
    by_cases h1 : r2 = r5
    · exact .mk (o' := 6) rfl c6 ((nx_equal (rg := [0, r1, r2, r3, r4, r5, 0, 0]) (a := 2) (b := 5) h1).trans (by rw [t6])) (.quiet rfl (.inl rfl) ⟨hr, hl, h2.symm.trans h1⟩)
    · refine .mk (o' := 5) rfl c6 (nx_equal' (rg := [0, r1, r2, r3, r4, r5, 0, 0]) (a := 2) (b := 5) h1) (.quiet rfl (.inl rfl) ?_)
      subst h2
      exact ⟨by unfold phZ; omega, hl.other hr h1⟩
  · obtain ⟨hb, hs⟩ := hok
    refine .mk (o' := 9) rfl c9 (by show ((⟨((p : Int) + 9).toNat, [0, r1, r2, r3, r4, r5, 0, 0], false⟩ : ThZ), [v], EffW.no) = _; rw [t9]) (.quiet rfl (.inl rfl) ?_)
    show Said _ (IntKind.i64.wrap r2) q
    rw [wr_ph hb]
    exact hs
  · obtain ⟨hr, hl, _⟩ := hok
    by_cases h1 : v = r1
    · subst h1
      exact .mk (o' := 7) rfl rfl (nx_wait rfl) (.quiet rfl (.inr (.inl ⟨_, rfl⟩)) hl.zero)
    · exact .mk (o' := 7) rfl rfl (nx_wait' h1) (.quiet rfl (.inl rfl) hl.zero)
  · exact .mk (o' := 0) rfl c0 (by show ((⟨((p : Int)).toNat, [0, r1, r2, r3, r4, r5, 0, 0], false⟩ : ThZ), [v], EffW.no) = _; rw [Int.toNat_natCast]; rfl) (.quiet rfl (.inl rfl) hok)
  · have hs : Said _ (-1) q := hok
    exact .mk (o' := 9) (r2' := u64m (-1)) rfl rfl rfl (.quiet rfl (.inl rfl) hs)
  · have hs : Said _ (IntKind.i64.wrap r2) q := hok
    exact .mk (o' := 10) rfl rfl rfl (.say _ rfl rfl rfl hs)
  · exfalso
    unfold awQ at hok
    split at hok <;> first | omega | exact hok

end Go.Mac
end

/- Calls that arrive, place by place. -/
section
open Go Go.Proofs Go.Mac
set_option maxRecDepth 100000
namespace Go.Mac

def arrQ2 (more : Int) (c : CallZ) (fail : Nat) (o : Nat) (r1 r2 r3 r4 r5 : Int) (q : LkQ) : Prop :=
  (o ≤ 28 ∧ arrQ more c o r1 r2 r3 r4 r5 q) ∨ (o = 29 ∧ (0 ≤ r5 ∧ r5 < 2147483648) ∧ qCh c q r5) ∨ (o = fail ∧ Said c (IntKind.i64.wrap r2) q)

theorem arrQ2.inn {more : Int} {c : CallZ} {fail o : Nat} {r1 r2 r3 r4 r5 : Int} {q : LkQ} (ho : o ≤ 28) (h : arrQ more c o r1 r2 r3 r4 r5 q) : arrQ2 more c fail o r1 r2 r3 r4 r5 q := .inl ⟨ho, h⟩

set_option maxHeartbeats 8000000 in
theorem arrQ_step {c : CallZ} {more fail : Int} (fin : Nat) (hc : arrC c more) (hfl : 30 ≤ fail) {v : Int} (hv : RV v) {o : Nat} (ho : o ≤ 28) {r1 r2 r3 r4 r5 : Int} {q : LkQ} (hok : arrQ more c o r1 r2 r3 r4 r5 q) :
    QStep (arriveI 0 more fail) c (arrQ2 more c fail.toNat) fin 0 q v o r1 r2 r3 r4 r5 := by
  have hf := hc.1
  have hm : more = -1 ∨ more = -65537 := by rcases hc.2 with h | h | h <;> omega
  rcases (show o = 0 ∨ o = 1 ∨ o = 2 ∨ o = 3 ∨ o = 4 ∨ o = 5 ∨ o = 6 ∨ o = 7 ∨ o = 8 ∨ o = 9 ∨ o = 10 ∨ o = 11 ∨ o = 12 ∨ o = 13 ∨ o = 14 ∨ o = 15 ∨ o = 16 ∨ o = 17 ∨ o = 18 ∨ o = 19 ∨ o = 20 ∨ o = 21 ∨ o = 22 ∨ o = 23 ∨ o = 24 ∨ o = 25 ∨ o = 26 ∨ o = 27 ∨ o = 28 by omega) with rfl | rfl | rfl | rfl | rfl | rfl | rfl | rfl | rfl | rfl | rfl | rfl | rfl | rfl | rfl | rfl | rfl | rfl | rfl | rfl | rfl | rfl | rfl | rfl | rfl | rfl | rfl | rfl | rfl
  · have hok : qNo q := hok
    exact .mk (o' := 1) (r1' := v) rfl rfl rfl (.look rfl ⟨_, rfl⟩ fun a hx hy => .inn (by decide) ⟨hv, hok.look hx hy⟩)
  · obtain ⟨hr, hl⟩ := hok
    exact .mk (o' := 2) (r2' := bitsZ r1 63 1) rfl rfl rfl (.quiet rfl (.inl rfl) (.inn (by decide) ⟨hr, hl, gb_over ⟨hr.1, hr.2.1⟩⟩))
  · obtain ⟨hr, hl, h2⟩ := hok
    rw [ovr] at h2
    by_cases ho : 9223372036854775808 ≤ r1
    · rw [if_pos ho] at h2
      subst h2
      exact .mk (o' := 25) rfl rfl (nx_same rfl) (.quiet rfl (.inl rfl) (.inn (by decide) (hl.said (eff_over hf hr ho))))
    · rw [if_neg ho] at h2
      subst h2
      exact .mk (o' := 3) rfl rfl (nx_same' (fun e => absurd (show (0 : Int) = 1 from e) (by decide))) (.quiet rfl (.inl rfl) (.inn (by decide) ⟨hr.rw (by omega), hl⟩))
  · obtain ⟨hr, hl⟩ := hok
    exact .mk (o' := 4) (r2' := bitsZ r1 0 16) rfl rfl rfl (.quiet rfl (.inl rfl) (.inn (by decide) ⟨hr, hl, gb_wait ⟨hr.1, hr.rv.2.1⟩⟩))
  · obtain ⟨hr, hl, h2⟩ := hok
    by_cases h0 : r2 = 0
    · exact .mk (o' := 27) rfl rfl (nx_same h0) (.quiet rfl (.inl rfl) (.inn (by decide) (hl.said (eff_none hc hr (h2.symm.trans h0)))))
    · exact .mk (o' := 5) rfl rfl (nx_same' h0) (.quiet rfl (.inl rfl) (.inn (by decide) ⟨hr, hl, h2, h0⟩))
  · have hok : arrP more r1 r2 q := hok
    obtain ⟨hr, hl, h2, h0⟩ := hok
    have e : u64m (r1 + u64m more) = r1 + more := by rw [um_add]; have := hr.1; have := hr.2.1; rcases hm with rfl | rfl <;> (unfold waZ at h2; have := hr.2.2; omega)
    refine .mk (o' := 6) (r4' := u64m (r1 + u64m more)) rfl rfl rfl (.quiet rfl (.inl rfl) (.inn (by decide) ?_))
    rw [e]
    exact ⟨⟨hr, hl, h2, h0⟩, rfl⟩
  · obtain ⟨hp, h4⟩ := hok
    by_cases h1 : r2 = 1
    · exact .mk (o' := 8) rfl rfl (nx_same h1) (.quiet rfl (.inl rfl) (.inn (by decide) ⟨hp, h4, h1⟩))
    · exact .mk (o' := 7) rfl rfl (nx_same' h1) (.quiet rfl (.inl rfl) (.inn (by decide) ⟨hp, h4, h1⟩))
  · obtain ⟨⟨hr, hl, h2, h0⟩, rfl, h1⟩ := hok
    obtain ⟨e1, e2, e3⟩ := eff_more hc hr (by unfold waZ at h2; have := hr.1; omega)
    refine .mk (o' := 18) rfl rfl rfl (.quiet rfl (.inl rfl) (.inn (by decide) ⟨hr, hl, e1, e2, e3, fun h => ?_⟩))
    exfalso
    obtain ⟨a1, a2, a3⟩ := hr
    unfold waZ at h2
    rcases hm with rfl | rfl <;> (unfold phZ at h; omega)
  · obtain ⟨⟨hr, hl, h2, h0⟩, h4, h1⟩ := hok
    have hb : 0 ≤ r4 ∧ r4 < 18446744073709551616 := by
      obtain ⟨a1, a2, a3⟩ := hr
      unfold waZ at h2
      rcases hm with rfl | rfl <;> omega
    exact .mk (o' := 9) (r3' := bitsZ r4 16 16) rfl rfl rfl (.quiet rfl (.inl rfl) (.inn (by decide) ⟨⟨hr, hl, h2, h0⟩, h4, h1, gb_part hb⟩))
  · obtain ⟨⟨hr, hl, h2, h0⟩, h4, h1, h3⟩ := hok
    by_cases hz : r3 = 0
    · exact .mk (o' := 17) rfl rfl (nx_same hz) (.quiet rfl (.inl rfl) (.inn (by decide) ⟨⟨hr, hl, h2, h0⟩, h4, h1, by rw [← h4, ← h3]; exact hz⟩))
    · exact .mk (o' := 10) rfl rfl (nx_same' hz) (.quiet rfl (.inl rfl) (.inn (by decide) ⟨⟨hr, hl, h2, h0⟩, h4, h1, h3, hz⟩))
  · obtain ⟨⟨hr, hl, h2, h0⟩, rfl, h1, h3, hz⟩ := hok
    have e : u64m (r1 + more + r3) = r1 + more + r3 := by
      obtain ⟨a1, a2, a3⟩ := hr
      unfold waZ at h2
      have hb : 0 ≤ r3 ∧ r3 < 65536 := by rw [h3]; unfold paZ; omega
      refine wrap_u64 _ ?_ ?_ <;> rcases hm with rfl | rfl <;> omega
    refine .mk (o' := 11) (r4' := u64m (r1 + more + r3)) rfl rfl rfl (.quiet rfl (.inl rfl) (.inn (by decide) ?_))
    rw [e]
    exact ⟨⟨hr, hl, h2, h0⟩, h1, by rw [← h3]; exact hz, by rw [← h3]⟩
  · have hok : arrN more r1 r2 r4 q := hok
    have hr := hok.1.1
    exact .mk (o' := 12) (r3' := bitsZ r1 32 31) rfl rfl rfl (.quiet rfl (.inl rfl) (.inn (by decide) ⟨hok, gb_phase ⟨hr.1, hr.rv.2.1⟩⟩))
  · obtain ⟨hN, h3⟩ := hok
    by_cases hw : r3 = 2147483647
    · exact .mk (o' := 15) rfl rfl (nx_same (hw.trans (by decide))) (.quiet rfl (.inl rfl) (.inn (by decide) ⟨hN, h3.symm.trans hw⟩))
    · exact .mk (o' := 13) rfl rfl (nx_same' (fun e => hw (e.trans (by decide)))) (.quiet rfl (.inl rfl) (.inn (by decide) ⟨hN, fun e => hw (h3.trans e)⟩))
  · obtain ⟨⟨⟨hr, hl, h2, h0⟩, h1, hp, rfl⟩, hph⟩ := hok
    obtain ⟨e1, e2, e3⟩ := eff_next hc hr (h2.symm.trans h1) hp hph
    have e : u64m (r1 + more + paZ (r1 + more) + u64m 4294967296) = r1 + more + paZ (r1 + more) + 4294967296 := by rw [um_add]; exact Int.emod_eq_of_lt e1.1 e1.2.1
    refine .mk (o' := 14) (r4' := u64m (r1 + more + paZ (r1 + more) + u64m 4294967296)) rfl rfl rfl (.quiet rfl (.inl rfl) (.inn (by decide) ?_))
    rw [e]
    exact ⟨hr, hl, e1, e2, e3, fun _ => h1⟩
  · exact .mk (o' := 18) rfl rfl rfl (.quiet rfl (.inl rfl) (.inn (by decide) hok))
  · obtain ⟨⟨⟨hr, hl, h2, h0⟩, h1, hp, rfl⟩, hph⟩ := hok
    obtain ⟨e1, e2, e3⟩ := eff_wrap hc hr (h2.symm.trans h1) hp hph
    have e : u64m (r1 + more + paZ (r1 + more) + u64m (-9223372032559808512)) = r1 + more + paZ (r1 + more) - 9223372032559808512 := by rw [um_add]; exact Int.emod_eq_of_lt e1.1 e1.2.1
    refine .mk (o' := 16) (r4' := u64m (r1 + more + paZ (r1 + more) + u64m (-9223372032559808512))) rfl rfl rfl (.quiet rfl (.inl rfl) (.inn (by decide) ?_))
    rw [e]
    exact ⟨hr, hl, e1, e2, e3, fun _ => h1⟩
  · exact .mk (o' := 18) rfl rfl rfl (.quiet rfl (.inl rfl) (.inn (by decide) hok))
  · obtain ⟨⟨hr, hl, h2, h0⟩, rfl, h1, hp⟩ := hok
    obtain ⟨e1, e2, e3⟩ := eff_last hc hr (h2.symm.trans h1) hp
    have e : u64m (r1 + more + u64m (-9223372036854775808)) = r1 + more + 9223372036854775808 := by
      rw [um_add]
      obtain ⟨a1, a2, a3⟩ := e1
      obtain ⟨b1, b2, b3⟩ := hr
      unfold waZ at h2
      rcases hm with rfl | rfl <;> omega
    refine .mk (o' := 18) (r4' := u64m (r1 + more + u64m (-9223372036854775808))) rfl rfl rfl (.quiet rfl (.inl rfl) (.inn (by decide) ?_))
    rw [e]
    exact ⟨hr, hl, e1, e2, e3, fun _ => h1⟩
  · obtain ⟨hr, hl, h4, hne, he, _⟩ := hok
    by_cases h1 : v = r1
    · subst h1
      exact .mk (o' := 19) (r3' := 1) (v' := r4) rfl rfl (nx_swap rfl) (.swap hl.no.chg h4 hne rfl fun a ha hx hy => .inn (by decide) (.inr ⟨rfl, hr, .of ha (by rw [hx, hy]; exact hne) (by rw [hx, hy]; exact he)⟩))
    · exact .mk (o' := 19) (r3' := 0) (v' := v) rfl rfl (nx_swap' h1) (.look rfl ⟨_, rfl⟩ fun a hx hy => .inn (by decide) (.inl ⟨rfl, (hl.no.look hx hy).no⟩))
  · rcases hok with ⟨rfl, hq⟩ | ⟨rfl, hr, hq⟩
    · exact .mk (o' := 0) rfl rfl (nx_same rfl) (.quiet rfl (.inl rfl) (.inn (by decide) hq))
    · exact .mk (o' := 20) rfl rfl (nx_same' (fun e => absurd (show (1 : Int) = 0 from e) (by decide))) (.quiet rfl (.inl rfl) (.inn (by decide) ⟨hr, hq⟩))
  · obtain ⟨hr, hq⟩ := hok
    refine .mk (o' := 21) (r5' := bitsZ r1 32 31) rfl rfl rfl (.quiet rfl (.inl rfl) (.inn (by decide) ?_))
    rw [gb_phase ⟨hr.1, hr.rv.2.1⟩]
    exact ⟨by omega, hq⟩
  · by_cases h1 : r2 = 1
    · exact .mk (o' := 23) rfl rfl (nx_same h1) (.quiet rfl (.inl rfl) (.inn (by decide) hok))
    · exact .mk (o' := 22) rfl rfl (nx_same' h1) (.quiet rfl (.inl rfl) (.inn (by decide) hok))
  · exact .mk (o' := 29) rfl rfl rfl (.quiet rfl (.inl rfl) (.inr (.inl ⟨rfl, hok⟩)))
  · exact .mk (o' := 24) rfl rfl rfl (.quiet rfl (.inr (.inr ⟨_, _, rfl⟩)) (.inn (by decide) hok))
  · exact .mk (o' := 29) rfl rfl rfl (.quiet rfl (.inl rfl) (.inr (.inl ⟨rfl, hok⟩)))
  · exact .mk (o' := 26) (r2' := u64m (-1)) rfl rfl rfl (.quiet rfl (.inl rfl) (.inn (by decide) ⟨hok, rfl⟩))
  · obtain ⟨hs, rfl⟩ := hok
    have ck : cellK 1 ⟨10, fail, 0, 0, 0⟩ = true := by simp [cellK]; omega
    exact .mk (o' := fail.toNat) (r1' := r1) (r2' := 18446744073709551615) (r3' := r3) (r4' := r4) (r5' := r5) rfl ck (congrArg (fun z => ((⟨z, [0, r1, 18446744073709551615, r3, r4, r5, 0, 0], false⟩ : ThZ), [v], EffW.no)) (Nat.zero_add fail.toNat).symm) (.quiet rfl (.inl rfl) (.inr (.inr ⟨rfl, hs⟩)))
  · exact .mk (o' := 28) (r2' := u64m (-2)) rfl rfl rfl (.quiet rfl (.inl rfl) (.inn (by decide) ⟨hok, rfl⟩))
  · obtain ⟨hs, rfl⟩ := hok
    have ck : cellK 1 ⟨10, fail, 0, 0, 0⟩ = true := by simp [cellK]; omega
    exact .mk (o' := fail.toNat) (r1' := r1) (r2' := 18446744073709551614) (r3' := r3) (r4' := r4) (r5' := r5) rfl ck (congrArg (fun z => ((⟨z, [0, r1, 18446744073709551614, r3, r4, r5, 0, 0], false⟩ : ThZ), [v], EffW.no)) (Nat.zero_add fail.toNat).symm) (.quiet rfl (.inl rfl) (.inr (.inr ⟨rfl, hs⟩)))

end Go.Mac
end

/- Calls of a phaser: what a step of a thread comes to. -/
section
open Go Go.Proofs Go.Mac
set_option maxRecDepth 100000
namespace Go.Mac

def gQ (c : CallZ) (o : Nat) (r1 r2 r3 r4 r5 : Int) (q : LkQ) : Prop :=
  if c.w = 6 then regQ c o r1 r2 r3 r4 q
  else if c.w = 10 then (o = 0 ∧ qNo q) ∨ (1 ≤ o ∧ awQ c (o - 1) r1 r2 r5 q)
  else if c.w = 11 then clsQ c o r1 r2 r3 r4 q
  else if c.w = 9 then (o ≤ 28 ∧ arrQ (-1) c o r1 r2 r3 r4 r5 q) ∨ (29 ≤ o ∧ awQ c (o - 29) r1 r2 r5 q)
  else (o ≤ 28 ∧ arrQ (arrM c) c o r1 r2 r3 r4 r5 q) ∨ (o = 29 ∧ (0 ≤ r5 ∧ r5 < 2147483648) ∧ qCh c q r5) ∨ (o = 30 ∧ Said c (IntKind.i64.wrap r2) q)

theorem regQ.half {c : CallZ} {o : Nat} {r1 r2 r3 r4 : Int} {q : LkQ} (h : regQ c o r1 r2 r3 r4 q) : Half c q := by
  unfold regQ at h
  split at h
  · exact h.half
  · exact h.2.no.half
  · exact h.2.1.no.half
  · exact h.2.no.half
  · exact h.2.1.no.half
  · exact h.2.1.no.half
  · exact h.2.1.no.half
  · exact h.2.1.no.half
  · rcases h with h | h
    · exact h.2.half
    · exact h.2.2.half
  · exact h.2.half
  · exact h.2.half
  · exact h.half
  · exact h.1.half
  · exact h.half
  · exact h.half
  · exact h.elim

theorem clsQ.half {c : CallZ} {o : Nat} {r1 r2 r3 r4 : Int} {q : LkQ} (h : clsQ c o r1 r2 r3 r4 q) : Half c q := by
  unfold clsQ at h
  split at h
  · exact h.half
  · exact h.2.no.half
  · exact h.2.1.no.half
  · exact h.2.no.half
  · exact h.2.1.no.half
  · rcases h with h | h
    · exact h.2.half
    · exact h.2.half
  · exact h.half
  · exact h.half
  · exact h.1.half
  · exact h.half
  · exact h.half
  · exact h.elim

theorem awQ.half {c : CallZ} {o : Nat} {r1 r2 r5 : Int} {q : LkQ} (h : awQ c o r1 r2 r5 q) : Half c q := by
  unfold awQ at h
  split at h
  · exact h.half
  · exact h.2.zero.half
  · exact h.2.1.zero.half
  · exact h.2.zero.half
  · exact h.2.1.zero.half
  · exact h.2.half
  · exact h.2.1.zero.half
  · exact h.half
  · exact h.half
  · exact h.half
  · exact h.elim

theorem arrQ.half {more : Int} {c : CallZ} {o : Nat} {r1 r2 r3 r4 r5 : Int} {q : LkQ} (h : arrQ more c o r1 r2 r3 r4 r5 q) : Half c q := by
  unfold arrQ arrN arrP at h
  split at h
  · exact h.half
  · exact h.2.no.half
  · exact h.2.1.no.half
  · exact h.2.no.half
  · exact h.2.1.no.half
  · exact h.2.1.no.half
  · exact h.1.2.1.no.half
  · exact h.1.2.1.no.half
  · exact h.1.2.1.no.half
  · exact h.1.2.1.no.half
  · exact h.1.2.1.no.half
  · exact h.1.2.1.no.half
  · exact h.1.1.2.1.no.half
  · exact h.1.1.2.1.no.half
  · exact h.2.1.no.half
  · exact h.1.1.2.1.no.half
  · exact h.2.1.no.half
  · exact h.1.2.1.no.half
  · exact h.2.1.no.half
  · rcases h with h | h
    · exact h.2.half
    · exact h.2.2.half
  · exact h.2.half
  · exact h.2.half
  · exact h.2.half
  · exact h.2.half
  · exact h.2.half
  · exact h.half
  · exact h.1.half
  · exact h.half
  · exact h.1.half
  · exact h.elim

theorem gQ.half {c : CallZ} {o : Nat} {r1 r2 r3 r4 r5 : Int} {q : LkQ} (h : gQ c o r1 r2 r3 r4 r5 q) : Half c q := by
  unfold gQ at h
  split at h
  · exact h.half
  split at h
  · rcases h with h | h
    · exact h.2.half
    · exact h.2.half
  split at h
  · exact h.half
  split at h
  · rcases h with h | h
    · exact h.2.half
    · exact h.2.half
  · rcases h with h | h | h
    · exact h.2.half
    · exact h.2.2.half
    · exact h.2.half

theorem gQ_0 {c : CallZ} (r1 r2 r3 r4 r5 : Int) : gQ c 0 r1 r2 r3 r4 r5 .q0 := by
  unfold gQ
  split
  · trivial
  split
  · exact .inl ⟨rfl, trivial⟩
  split
  · trivial
  split
  · exact .inl ⟨by decide, trivial⟩
  · exact .inl ⟨by decide, trivial⟩

def QG (l : List CallZ) (g : GZ) (q : LkQ) : Prop :=
  ∃ r1 r2 r3 r4 r5 : Int, g.y.rg = [0, r1, r2, r3, r4, r5, 0, 0] ∧ ((g.j = l.length ∧ (g.y.dn = true ∨ g.y.dn = false ∧ g.y.pc = 0)) ∨ g.y.dn = false ∧ ∃ c, l[g.j]? = some c ∧ gQ c g.y.pc r1 r2 r3 r4 r5 q)

inductive LnOut (l : List CallZ) (g : GZ) (v : Int) (q : LkQ) (g' : GZ) (v' : Int) (e : EffW) : Prop
  | quiet (hv : v' = v) (he : e = .no ∨ (∃ k, e = .sleep k) ∨ ∃ k n, e = .wake k n) (hj : g'.j = g.j) (hg : QG l g' q)
  | look (hv : v' = v) (he : ∃ x, e = .act x 0 v v) (hj : g'.j = g.j) (hg : ∀ a : ActZ, a.x = v → a.y = v → QG l g' (lkStep q a))
  | swap (hq : q.chg = none) (hv : RV v') (hne : v ≠ v') (he : e = .act 9 0 v v') (hj : g'.j = g.j) (hl : g.j < l.length) (hg : ∀ a : ActZ, a.o = 9 → a.x = v → a.y = v' → QG l g' (lkStep q a))
  | say (x : Int) (c : CallZ) (hv : v' = v) (he : e = .say 3 x) (hj : g'.j = g.j + 1) (hc : l[g.j]? = some c) (hs : Said c x q) (hg : QG l g' .q0)

def LnS (l : List CallZ) (g : GZ) (v : Int) (q : LkQ) : Prop := ∃ g' v' e, LS 1 (l.map bodyG) g [v] g' [v'] e ∧ LnOut l g v q g' v' e

theorem QG_0 {l : List CallZ} {j : Nat} (hj : j ≤ l.length) (r1 r2 r3 r4 r5 : Int) : QG l ⟨j, ⟨0, [0, r1, r2, r3, r4, r5, 0, 0], false⟩⟩ .q0 := by
  refine ⟨r1, r2, r3, r4, r5, rfl, ?_⟩
  cases h : l[j]? with
  | none => exact .inl ⟨by have := List.getElem?_eq_none_iff.1 h; show j = _; omega, .inr ⟨rfl, rfl⟩⟩
  | some c => exact .inr ⟨rfl, c, by first | exact h | rfl, gQ_0 ..⟩

theorem ln_part {l : List CallZ} {j : Nat} {c : CallZ} (hb : l[j]? = some c) {B : List InsZ} {ok : Nat → Int → Int → Int → Int → Int → LkQ → Prop} {fin p : Nat}
    (hB : ∀ o i, B[o]? = some i → (bodyG c)[p + o]? = some i) (hok : ∀ o r1 r2 r3 r4 r5 q, ok o r1 r2 r3 r4 r5 q → p + o < (bodyG c).length ∧ gQ c (p + o) r1 r2 r3 r4 r5 q) (hfin : p + (fin + 1) = (bodyG c).length)
    {v : Int} {o : Nat} {r1 r2 r3 r4 r5 : Int} {q : LkQ} (hs : QStep B c ok fin p q v o r1 r2 r3 r4 r5) : LnS l ⟨j, ⟨p + o, [0, r1, r2, r3, r4, r5, 0, 0], false⟩⟩ v q := by
  obtain ⟨i, o', r1', r2', r3', r4', r5', v', e, hi, hc, hn, hout⟩ := hs
  have hi' := hB o i hi
  have hjl := (List.getElem?_eq_some_iff.1 hb).1
  cases hout with
  | quiet hv he hk =>
    obtain ⟨h1, h2⟩ := hok _ _ _ _ _ _ _ hk
    exact ⟨_, _, _, LS.inn hb hi' (cellK_ok hc) hn h1, .quiet hv he rfl ⟨_, _, _, _, _, rfl, .inr ⟨rfl, c, hb, h2⟩⟩⟩
  | look hv he hk =>
    obtain ⟨x, rfl⟩ := he
    obtain ⟨h1, _⟩ := hok _ _ _ _ _ _ _ (hk ⟨0, 0, 0, 0, v, v⟩ rfl rfl)
    exact ⟨_, _, _, LS.inn hb hi' (cellK_ok hc) hn h1, .look hv ⟨x, rfl⟩ rfl fun a hx hy => ⟨_, _, _, _, _, rfl, .inr ⟨rfl, c, hb, (hok _ _ _ _ _ _ _ (hk a hx hy)).2⟩⟩⟩
  | swap hq hv hne he hk =>
    obtain ⟨h1, _⟩ := hok _ _ _ _ _ _ _ (hk ⟨0, 0, 9, 0, v, v'⟩ rfl rfl rfl)
    exact ⟨_, _, _, LS.inn hb hi' (cellK_ok hc) hn h1, .swap hq hv hne he rfl hjl fun a h9 hx hy => ⟨_, _, _, _, _, rfl, .inr ⟨rfl, c, hb, (hok _ _ _ _ _ _ _ (hk a h9 hx hy)).2⟩⟩⟩
  | say x hv he ho hs =>
    subst ho
    exact ⟨_, _, _, LS.out hb hi' (cellK_ok hc) hn hfin, .say x c hv he rfl hb hs (QG_0 (by omega) ..)⟩

set_option maxHeartbeats 4000000 in
theorem ln_local {l : List CallZ} {g : GZ} {v : Int} {q : LkQ} (hv : RV v) (hfit : ∀ c ∈ l, gFit c) (h : QG l g q) (hd : g.y.dn = false) : LnS l g v q := by
  obtain ⟨r1, r2, r3, r4, r5, hrg, hcase⟩ := h
  obtain ⟨j, o, rg, dn⟩ := g
  dsimp only at hd hrg hcase
  subst hd hrg
  rcases hcase with ⟨hj, h1 | ⟨_, rfl⟩⟩ | ⟨_, c, hb, hok⟩
  · cases h1
  · exact ⟨_, _, _, LS.halt hj, .quiet rfl (.inl rfl) rfl ⟨_, _, _, _, _, rfl, .inl ⟨hj, .inl rfl⟩⟩⟩
  have hfc := hfit c (List.mem_of_getElem? hb)
  have hf := gfit_w hfc
  obtain ⟨w, n⟩ := c
  dsimp only at hf
  have hjl := (List.getElem?_eq_some_iff.1 hb).1
  rcases hf with ⟨rfl, hn⟩ | rfl | rfl | rfl | rfl | rfl
  · have hok : regQ ⟨6, n⟩ o r1 r2 r3 r4 q := hok
    have := ln_part (l := l) (j := j) hb (B := registerI 0 n) (fin := 14) (p := 0) (fun o i h => by rw [Nat.zero_add]; exact h) (fun o a b c d e q h => by
      rw [Nat.zero_add]
      refine ⟨?_, h⟩
      show o < 15
      unfold regQ at h
      split at h <;> first | omega | exact h.elim) rfl (regQ_step (r5 := r5) hfc rfl hv hok)
    rwa [Nat.zero_add] at this
  · have hok : (o = 0 ∧ qNo q) ∨ (1 ≤ o ∧ awQ ⟨10, n⟩ (o - 1) r1 r2 r5 q) := hok
    have hn : 0 ≤ n ∧ n < 2147483648 := of_decide_eq_true (show decide (0 ≤ n ∧ n < 2147483648) = true from hfc)
    rcases hok with ⟨rfl, hq⟩ | ⟨ho, hk⟩
    · refine ⟨_, _, _, LS.inn (i := ⟨1, 5, n, 0, 0⟩) (o' := 1) (rg' := [0, r1, r2, r3, r4, u64m n, 0, 0]) hb rfl (cellK_ok rfl) rfl (show 1 < 11 by decide), .quiet rfl (.inl rfl) rfl ⟨_, _, _, _, _, rfl, .inr ⟨rfl, _, hb, .inr ⟨Nat.le_refl _, ?_⟩⟩⟩⟩
      show aw0 ⟨10, n⟩ (u64m n) q
      rw [show u64m n = n from wrap_u64 _ (by omega) (by omega)]
      exact ⟨hn, .inr ⟨rfl, rfl, hq⟩⟩
    · obtain ⟨k, rfl⟩ : ∃ k, o = 1 + k := ⟨o - 1, by omega⟩
      rw [Nat.add_sub_cancel_left] at hk
      exact ln_part (l := l) (j := j) hb (B := awaitI (1 : Nat)) (fin := 9) (p := 1) (get_right (A := [⟨1, 5, n, 0, 0⟩]) rfl) (fun o a b c d e q h => by
        refine ⟨?_, .inr ⟨Nat.le_add_right .., by rw [Nat.add_sub_cancel_left]; exact h⟩⟩
        show 1 + o < 11
        unfold awQ at h
        split at h <;> first | omega | exact h.elim) rfl (awQ_step hfc 1 hv hk)
  · have hok : clsQ ⟨11, n⟩ o r1 r2 r3 r4 q := hok
    have := ln_part (l := l) (j := j) hb (B := closesI 0) (fin := 10) (p := 0) (fun o i h => by rw [Nat.zero_add]; exact h) (fun o a b c d e q h => by
      rw [Nat.zero_add]
      refine ⟨?_, h⟩
      show o < 11
      unfold clsQ at h
      split at h <;> first | omega | exact h.elim) rfl (clsQ_step (r5 := r5) hfc rfl hv hok)
    rwa [Nat.zero_add] at this
  · have hok : (o ≤ 28 ∧ arrQ (-1) ⟨9, n⟩ o r1 r2 r3 r4 r5 q) ∨ (29 ≤ o ∧ awQ ⟨9, n⟩ (o - 29) r1 r2 r5 q) := hok
    rcases hok with ⟨ho, hk⟩ | ⟨ho, hk⟩
    · have := ln_part (l := l) (j := j) hb (B := arriveI 0 (-1) 38) (fin := 38) (p := 0) (fun o i h => by rw [Nat.zero_add]; exact get_left (T := awaitI (29 : Nat)) o i h) (fun o a b c d e q h => by
        rw [Nat.zero_add]
        rcases h with ⟨h1, h⟩ | ⟨rfl, h1, h⟩ | ⟨rfl, h⟩
        · exact ⟨by show o < 39; omega, .inl ⟨h1, h⟩⟩
        · refine ⟨by show 29 < 39; decide, .inr ⟨Nat.le_refl _, ⟨h1, .inl ⟨rfl, ?_⟩⟩⟩⟩
          cases q <;> first | exact h | exact h.elim
        · exact ⟨by show 38 < 39; decide, .inr ⟨by decide, h⟩⟩) rfl (arrQ_step 38 (c := ⟨9, n⟩) (more := -1) (fail := 38) ⟨hfc, .inr (.inl ⟨rfl, rfl⟩)⟩ (by decide) hv ho hk)
      rwa [Nat.zero_add] at this
    · obtain ⟨k, rfl⟩ : ∃ k, o = 29 + k := ⟨o - 29, by omega⟩
      rw [Nat.add_sub_cancel_left] at hk
      exact ln_part (l := l) (j := j) hb (B := awaitI (29 : Nat)) (fin := 9) (p := 29) (get_right (A := arriveI 0 (-1) 38) rfl) (fun o a b c d e q h => by
        refine ⟨?_, .inr ⟨Nat.le_add_right .., by rw [Nat.add_sub_cancel_left]; exact h⟩⟩
        show 29 + o < 39
        unfold awQ at h
        split at h <;> first | omega | exact h.elim) rfl (awQ_step hfc 29 hv hk)
  · have hok : (o ≤ 28 ∧ arrQ (-65537) ⟨8, n⟩ o r1 r2 r3 r4 r5 q) ∨ (o = 29 ∧ (0 ≤ r5 ∧ r5 < 2147483648) ∧ qCh ⟨8, n⟩ q r5) ∨ (o = 30 ∧ Said ⟨8, n⟩ (IntKind.i64.wrap r2) q) := hok
    have h9 : (CallZ.mk 8 n).w ≠ 9 := (by decide : (8 : Int) ≠ 9)
    rcases hok with ⟨ho, hk⟩ | ⟨rfl, h5, hq⟩ | ⟨rfl, hs⟩
    · have := ln_part (l := l) (j := j) hb (B := arriveI 0 (-65537) 30) (fin := 30) (p := 0) (fun o i h => by rw [Nat.zero_add]; exact get_left (T := tellsI) o i h) (fun o a b c d e q h => by
        rw [Nat.zero_add]
        rcases h with ⟨h1, h⟩ | ⟨rfl, h1, h⟩ | ⟨rfl, h⟩
        · exact ⟨by show o < 31; omega, .inl ⟨h1, h⟩⟩
        · exact ⟨by show 29 < 31; decide, .inr (.inl ⟨rfl, h1, h⟩)⟩
        · exact ⟨by show 30 < 31; decide, .inr (.inr ⟨rfl, h⟩)⟩) rfl (arrQ_step 30 (c := ⟨8, n⟩) (more := -65537) (fail := 30) ⟨hfc, .inr (.inr ⟨rfl, rfl⟩)⟩ (by decide) hv ho hk)
      rwa [Nat.zero_add] at this
    · refine ⟨_, _, _, LS.inn (i := ⟨2, 2, 5, 0, 0⟩) (o' := 30) (rg' := [0, r1, r5, r3, r4, r5, 0, 0]) hb rfl (cellK_ok rfl) rfl (show 30 < 31 by decide), .quiet rfl (.inl rfl) rfl ⟨_, _, _, _, _, rfl, .inr ⟨rfl, _, hb, .inr (.inr ⟨rfl, ?_⟩)⟩⟩⟩
      rw [wr_ph h5]
      exact hq.said h9
    · exact ⟨_, _, _, LS.out (i := ⟨16, 3, 2, 0, 0⟩) (o' := 31) (rg' := [0, r1, r2, r3, r4, r5, 0, 0]) hb rfl (cellK_ok rfl) rfl rfl, .say _ _ rfl rfl rfl hb hs (QG_0 (by omega) ..)⟩
  · have hok : (o ≤ 28 ∧ arrQ (-1) ⟨7, n⟩ o r1 r2 r3 r4 r5 q) ∨ (o = 29 ∧ (0 ≤ r5 ∧ r5 < 2147483648) ∧ qCh ⟨7, n⟩ q r5) ∨ (o = 30 ∧ Said ⟨7, n⟩ (IntKind.i64.wrap r2) q) := hok
    have h9 : (CallZ.mk 7 n).w ≠ 9 := (by decide : (7 : Int) ≠ 9)
    rcases hok with ⟨ho, hk⟩ | ⟨rfl, h5, hq⟩ | ⟨rfl, hs⟩
    · have := ln_part (l := l) (j := j) hb (B := arriveI 0 (-1) 30) (fin := 30) (p := 0) (fun o i h => by rw [Nat.zero_add]; exact get_left (T := tellsI) o i h) (fun o a b c d e q h => by
        rw [Nat.zero_add]
        rcases h with ⟨h1, h⟩ | ⟨rfl, h1, h⟩ | ⟨rfl, h⟩
        · exact ⟨by show o < 31; omega, .inl ⟨h1, h⟩⟩
        · exact ⟨by show 29 < 31; decide, .inr (.inl ⟨rfl, h1, h⟩)⟩
        · exact ⟨by show 30 < 31; decide, .inr (.inr ⟨rfl, h⟩)⟩) rfl (arrQ_step 30 (c := ⟨7, n⟩) (more := -1) (fail := 30) ⟨hfc, .inl ⟨rfl, rfl⟩⟩ (by decide) hv ho hk)
      rwa [Nat.zero_add] at this
    · refine ⟨_, _, _, LS.inn (i := ⟨2, 2, 5, 0, 0⟩) (o' := 30) (rg' := [0, r1, r5, r3, r4, r5, 0, 0]) hb rfl (cellK_ok rfl) rfl (show 30 < 31 by decide), .quiet rfl (.inl rfl) rfl ⟨_, _, _, _, _, rfl, .inr ⟨rfl, _, hb, .inr (.inr ⟨rfl, ?_⟩)⟩⟩⟩
      rw [wr_ph h5]
      exact hq.said h9
    · exact ⟨_, _, _, LS.out (i := ⟨16, 3, 2, 0, 0⟩) (o' := 31) (rg' := [0, r1, r2, r3, r4, r5, 0, 0]) hb rfl (cellK_ok rfl) rfl rfl, .say _ _ rfl rfl rfl hb hs (QG_0 (by omega) ..)⟩

end Go.Mac
end

/- Calls of a phaser: what holds behind any steps: each call's looks, and what it was told. -/
section
open Go Go.Proofs Go.Mac
set_option maxRecDepth 100000
namespace Go.Mac

/-- Each act finds what was there. -/
def chainZ (w0 : Int) : List ActZ → Int → Prop
  | [], v => w0 = v
  | a :: l, v => a.x = w0 ∧ chainZ a.y l v

theorem chain_snoc : ∀ {l : List ActZ} {w0 v : Int} {a : ActZ}, chainZ w0 l v → a.x = v → chainZ w0 (l ++ [a]) a.y
  | [], _, _, _, h, ha => by
    have h : _ = _ := h
    subst h
    exact ⟨ha, rfl⟩
  | _ :: _, _, _, _, h, ha => ⟨h.1, chain_snoc h.2 ha⟩

/-- A call's acts: of one that is answered, up to then. -/
def lkOf (al : List ActZ) (ws : List Int) (s k : Nat) : LkQ :=
  match ws[k]? with
  | some w => lkRun s (prevT ws k) w true al
  | none => lkRun s (prevT ws k) 9223372036854775807 false al

theorem lk_congr {t frm to t' frm' to' : Int} {done done' : Bool} : ∀ {l : List ActZ} {q : LkQ}, (∀ a ∈ l, hitB t frm to done a = hitB t' frm' to' done' a) → lkFold t frm to done q l = lkFold t' frm' to' done' q l
  | [], _, _ => rfl
  | a :: l, q, h => by
    show lkFold t frm to done (if hitB t frm to done a = true then lkStep q a else q) l = lkFold t' frm' to' done' (if hitB t' frm' to' done' a = true then lkStep q a else q) l
    rw [h a (by simp)]
    exact lk_congr fun x hx => h x (List.mem_cons_of_mem _ hx)

theorem lk_none {t frm to : Int} {done : Bool} : ∀ {l : List ActZ} {q : LkQ}, (∀ a ∈ l, hitB t frm to done a = false) → lkFold t frm to done q l = q
  | [], _, _ => rfl
  | a :: l, q, h => by
    show lkFold t frm to done (if hitB t frm to done a = true then lkStep q a else q) l = q
    rw [h a (by simp), if_neg (by decide)]
    exact lk_none fun x hx => h x (List.mem_cons_of_mem _ hx)

theorem prev_le {ws : List Int} {K : Nat} (hw : ∀ w ∈ ws, w ≤ K) (k : Nat) : prevT ws k ≤ K := prevT_le (by omega) hw k

theorem lkOf_act {al : List ActZ} {ws : List Int} {K : Nat} (hw : ∀ w ∈ ws, w ≤ K) {a : ActZ} (ha : a.w = ((K + 1 : Nat) : Int)) (hc : a.c = 0) {s : Nat} (k : Nat) (hk : k ≤ ws.length) :
    lkOf (al ++ [a]) ws s k = if a.t = (s : Int) ∧ k = ws.length then lkStep (lkOf al ws s k) a else lkOf al ws s k := by
  have hp := prev_le hw k
  rw [lkOf, lkOf]
  cases hq : ws[k]? with
  | some w =>
    have hlt := (List.getElem?_eq_some_iff.1 hq).1
    have hwk := hw w (List.mem_of_getElem? hq)
    dsimp only
    rw [lkRun_snoc, if_neg (fun h => by have := (hitB_iff.1 h).2.2.2 rfl; omega), if_neg (fun h => by omega)]
  | none =>
    have := List.getElem?_eq_none_iff.1 hq
    have hke : k = ws.length := by omega
    dsimp only
    rw [lkRun_snoc]
    by_cases ht : a.t = (s : Int)
    · rw [if_pos (hitB_iff.2 ⟨ht, hc, by omega, fun h => by cases h⟩), if_pos ⟨ht, hke⟩]
    · rw [if_neg (fun h => ht (hitB_iff.1 h).1), if_neg (fun h => ht h.1)]

theorem lkOf_told {al : List ActZ} {ws : List Int} {K : Nat} (hw : ∀ w ∈ ws, w ≤ K) (ha : ∀ a ∈ al, a.w ≤ K) (s k : Nat) (hk : k ≤ ws.length) : lkOf al (ws ++ [((K + 1 : Nat) : Int)]) s k = lkOf al ws s k := by
  rw [lkOf, lkOf]
  rcases Nat.lt_or_eq_of_le hk with hlt | rfl
  · rw [List.getElem?_append_left hlt, List.getElem?_eq_getElem hlt]
    dsimp only
    rw [prevT_snoc hk]
  · rw [List.getElem?_append_right (Nat.le_refl _), Nat.sub_self, List.getElem?_eq_none (Nat.le_refl _)]
    show lkRun s (prevT (ws ++ [_]) ws.length) ((K + 1 : Nat) : Int) true al = lkRun s (prevT ws ws.length) 9223372036854775807 false al
    rw [prevT_snoc hk]
    refine lk_congr fun a h => ?_
    have := ha a h
    rw [hitB, hitB, decide_eq_false (show ¬ a.w ≥ ((K + 1 : Nat) : Int) by omega)]
    rfl

theorem lkOf_new {al : List ActZ} {ws : List Int} {K : Nat} (ha : ∀ a ∈ al, a.w ≤ K) (s : Nat) : lkOf al (ws ++ [((K + 1 : Nat) : Int)]) s (ws.length + 1) = .q0 := by
  rw [lkOf, List.getElem?_eq_none (by rw [List.length_append]; simp)]
  refine lk_none fun a h => ?_
  have h1 := ha a h
  rw [Bool.eq_false_iff]
  intro hh
  have h2 := (hitB_iff.1 hh).2.2.1
  rw [prevT, if_neg (by omega), Nat.add_sub_cancel, List.getD_eq_getElem?_getD, List.getElem?_append_right (Nat.le_refl _), Nat.sub_self] at h2
  have h2 : ((K + 1 : Nat) : Int) < a.w := h2
  omega

structure LnJ (n : Nat) (ls : Nat → List CallZ) (w0 : Int) (gs : Nat → GZ) (v : Int) (m : MZ) : Prop where
  sys : SysW n 1 (fun t => (ls t).map bodyG) gs [v] m
  hf : ∀ t, t < n → ∀ c ∈ ls t, gFit c
  rv : RV v
  chain : chainZ w0 m.al v
  al : ∀ a ∈ m.al, a.w ≤ m.k
  el : ∀ e ∈ m.el, e.w ≤ m.k
  tw : ∀ s, s < n → (endT s m.el).length = (gs s).j
  ta : ∀ s, s < n → (ansT s m.el).length = (gs s).j
  jl : ∀ s, s < n → (gs s).j ≤ (ls s).length
  ei : ∀ s, (endT s m.el).Pairwise (· < ·)
  th : ∀ s, s < n → QG (ls s) (gs s) (lkOf m.al (endT s m.el) s (gs s).j)
  hist : ∀ s, s < n → ∀ (k : Nat) (x : Int) (c : CallZ), (ansT s m.el)[k]? = some x → (ls s)[k]? = some c → Said c x (lkOf m.al (endT s m.el) s k)
  chg : ∀ a ∈ m.al, a.x ≠ a.y → ∃ s k : Nat, s < n ∧ k ≤ (gs s).j ∧ k < (ls s).length ∧ (lkOf m.al (endT s m.el) s k).chg = some a

section
variable {n : Nat} {ls : Nat → List CallZ} {w0 v : Int} {gs : Nat → GZ} {m : MZ}

theorem LnJ.tol (h : LnJ n ls w0 gs v m) (s : Nat) : ∀ w ∈ endT s m.el, w ≤ m.k := fun w hw => by obtain ⟨e, he, rfl⟩ := endT_mem hw; exact h.el e he

/-- A step without an act, or a word. -/
theorem LnJ.go0 (h : LnJ n ls w0 gs v m) {t : Nat} {g' : GZ} {m' : MZ} (hS : SysW n 1 (fun t => (ls t).map bodyG) (updG gs t g') [v] m') (hal : m'.al = m.al) (hel : m'.el = m.el) (hk : m'.k = m.k + 1) (hj : g'.j = (gs t).j)
    (hg : QG (ls t) g' (lkOf m.al (endT t m.el) t (gs t).j)) : LnJ n ls w0 (updG gs t g') v m' := by
  have hjj : ∀ s, (updG gs t g' s).j = (gs s).j := fun s => by
    by_cases hst : s = t
    · subst hst; rw [updG_same, hj]
    · rw [updG_ne _ _ hst]
  refine ⟨hS, h.hf, h.rv, by rw [hal]; exact h.chain, fun a ha => ?_, fun e he => ?_, fun s hs => by rw [hel, hjj]; exact h.tw s hs, fun s hs => by rw [hel, hjj]; exact h.ta s hs, fun s hs => by rw [hjj]; exact h.jl s hs, by rw [hel]; exact h.ei, fun s hs => ?_, fun s hs => by rw [hel, hal]; exact h.hist s hs, fun a ha hne => ?_⟩
  · rw [hal] at ha; rw [hk]; have := h.al a ha; omega
  · rw [hel] at he; rw [hk]; have := h.el e he; omega
  · rw [hal, hel, hjj]
    by_cases hst : s = t
    · subst hst; rw [updG_same]; exact hg
    · rw [updG_ne _ _ hst]; exact h.th s hs
  · rw [hal] at ha
    obtain ⟨s, k, h1, h2, h3, h4⟩ := h.chg a ha hne
    exact ⟨s, k, h1, by rw [hjj]; exact h2, h3, by rw [hal, hel]; exact h4⟩

/-- A step with an act. -/
theorem LnJ.go1 (h : LnJ n ls w0 gs v m) {t : Nat} (ht : t < n) {g' : GZ} {v' : Int} {m' : MZ} {a : ActZ} (hS : SysW n 1 (fun t => (ls t).map bodyG) (updG gs t g') [v'] m') (hal : m'.al = m.al ++ [a]) (hel : m'.el = m.el) (hk : m'.k = m.k + 1) (hj : g'.j = (gs t).j)
    (haw : a.w = ((m.k + 1 : Nat) : Int)) (hat : a.t = (t : Int)) (hac : a.c = 0) (hax : a.x = v) (hay : a.y = v') (hrv : RV v')
    (hg : QG (ls t) g' (lkStep (lkOf m.al (endT t m.el) t (gs t).j) a)) (hch : a.x ≠ a.y → a.o = 9 ∧ (lkOf m.al (endT t m.el) t (gs t).j).chg = none ∧ (gs t).j < (ls t).length) : LnJ n ls w0 (updG gs t g') v' m' := by
  have hjj : ∀ s, (updG gs t g' s).j = (gs s).j := fun s => by
    by_cases hst : s = t
    · subst hst; rw [updG_same, hj]
    · rw [updG_ne _ _ hst]
  have hlk : ∀ s k, s < n → k ≤ (gs s).j → lkOf (m.al ++ [a]) (endT s m.el) s k = if s = t ∧ k = (gs s).j then lkStep (lkOf m.al (endT s m.el) s k) a else lkOf m.al (endT s m.el) s k := fun s k hs hk => by
    rw [lkOf_act (h.tol s) haw hac k (by rw [h.tw s hs]; exact hk), h.tw s hs]
    by_cases hst : s = t
    · subst hst
      by_cases hkk : k = (gs s).j
      · rw [if_pos ⟨hat, hkk⟩, if_pos ⟨rfl, hkk⟩]
      · rw [if_neg fun h => hkk h.2, if_neg fun h => hkk h.2]
    · rw [if_neg fun h => hst (by have := h.1; omega), if_neg fun h => hst h.1]
  refine ⟨hS, h.hf, hrv, ?_, fun b hb => ?_, fun e he => ?_, fun s hs => by rw [hel, hjj]; exact h.tw s hs, fun s hs => by rw [hel, hjj]; exact h.ta s hs, fun s hs => by rw [hjj]; exact h.jl s hs, by rw [hel]; exact h.ei, fun s hs => ?_, fun s hs k x c hx hc => ?_, fun b hb hne => ?_⟩
  · rw [hal, ← hay]
    exact chain_snoc h.chain hax
  · rw [hal] at hb
    rw [hk]
    rcases List.mem_append.1 hb with hb | hb
    · have := h.al b hb; omega
    · obtain rfl := List.mem_singleton.1 hb
      omega
  · rw [hel] at he; rw [hk]; have := h.el e he; omega
  · rw [hal, hel, hjj, hlk s _ hs (Nat.le_refl _)]
    by_cases hst : s = t
    · subst hst
      rw [updG_same, if_pos ⟨rfl, rfl⟩]
      exact hg
    · rw [updG_ne _ _ hst, if_neg fun h => hst h.1]
      exact h.th s hs
  · rw [hel] at hx ⊢
    have hkl := (List.getElem?_eq_some_iff.1 hx).1
    rw [h.ta s hs] at hkl
    rw [hal, hlk s k hs (by omega), if_neg (by omega)]
    exact h.hist s hs k x c hx hc
  · rw [hal] at hb
    rcases List.mem_append.1 hb with hb | hb
    · obtain ⟨s, k, h1, h2, h3, h4⟩ := h.chg b hb hne
      refine ⟨s, k, h1, by rw [hjj]; exact h2, h3, ?_⟩
      rw [hal, hel, hlk s k h1 h2]
      split
      · rename_i hst
        obtain ⟨rfl, rfl⟩ := hst
        have hsame : a.x = a.y := Classical.byContradiction fun hne => by
          have := (hch hne).2.1
          rw [h4] at this
          cases this
        rw [lkStep_same hsame]
        generalize lkOf m.al (endT s m.el) s (gs s).j = q at h4
        cases q <;> first | exact h4 | cases h4
      · exact h4
    · obtain rfl := List.mem_singleton.1 hb
      obtain ⟨h9, hq, hjl⟩ := hch hne
      refine ⟨t, (gs t).j, ht, by rw [hjj]; exact Nat.le_refl _, hjl, ?_⟩
      rw [hal, hel, hlk t _ ht (Nat.le_refl _), if_pos ⟨rfl, rfl⟩, lkStep_chg h9 hne]
      rfl

/-- A step with a word. -/
theorem LnJ.go2 (h : LnJ n ls w0 gs v m) {t : Nat} (ht : t < n) {g' : GZ} {m' : MZ} {x : Int} {c : CallZ} (hS : SysW n 1 (fun t => (ls t).map bodyG) (updG gs t g') [v] m') (hal : m'.al = m.al) (hel : m'.el = m.el ++ [⟨((m.k + 1 : Nat) : Int), 3, (t : Int), x⟩]) (hk : m'.k = m.k + 1) (hj : g'.j = (gs t).j + 1)
    (hc : (ls t)[(gs t).j]? = some c) (hsaid : Said c x (lkOf m.al (endT t m.el) t (gs t).j)) (hg : QG (ls t) g' .q0) : LnJ n ls w0 (updG gs t g') v m' := by
  have hend : ∀ s, endT s m'.el = if s = t then endT s m.el ++ [((m.k + 1 : Nat) : Int)] else endT s m.el := fun s => by
    rw [hel, endT_snoc]
    by_cases hst : s = t
    · subst hst; rw [if_pos rfl, if_pos rfl]
    · rw [if_neg hst, if_neg fun e => hst (by dsimp only at e; omega)]
  have hans : ∀ s, ansT s m'.el = if s = t then ansT s m.el ++ [x] else ansT s m.el := fun s => by
    rw [hel, ansT_snoc]
    by_cases hst : s = t
    · subst hst; rw [if_pos rfl, if_pos ⟨rfl, rfl⟩]
    · rw [if_neg hst, if_neg fun e => hst (by have := e.2; dsimp only at this; omega)]
  have hjl := (List.getElem?_eq_some_iff.1 hc).1
  refine ⟨hS, h.hf, h.rv, by rw [hal]; exact h.chain, fun a ha => ?_, fun e he => ?_, fun s hs => ?_, fun s hs => ?_, fun s hs => ?_, fun s => ?_, fun s hs => ?_, fun s hs k y d hx hd => ?_, fun a ha hne => ?_⟩
  · rw [hal] at ha; rw [hk]; have := h.al a ha; omega
  · rw [hel] at he; rw [hk]
    rcases List.mem_append.1 he with he | he
    · have := h.el e he; omega
    · obtain rfl := List.mem_singleton.1 he
      exact Int.le_refl _
  · rw [hend]
    by_cases hst : s = t
    · subst hst; rw [if_pos rfl, updG_same, List.length_append, h.tw s hs, hj]; rfl
    · rw [if_neg hst, updG_ne _ _ hst]; exact h.tw s hs
  · rw [hans]
    by_cases hst : s = t
    · subst hst; rw [if_pos rfl, updG_same, List.length_append, h.ta s hs, hj]; rfl
    · rw [if_neg hst, updG_ne _ _ hst]; exact h.ta s hs
  · by_cases hst : s = t
    · subst hst; rw [updG_same, hj]; omega
    · rw [updG_ne _ _ hst]; exact h.jl s hs
  · rw [hend]
    split
    · refine List.pairwise_append.2 ⟨h.ei s, List.pairwise_singleton .., fun a ha b hb => ?_⟩
      obtain rfl := List.mem_singleton.1 hb
      have := h.tol s a ha
      omega
    · exact h.ei s
  · rw [hal, hend]
    by_cases hst : s = t
    · subst hst
      rw [if_pos rfl, updG_same, hj, ← h.tw s hs, lkOf_new h.al]
      exact hg
    · rw [if_neg hst, updG_ne _ _ hst]
      exact h.th s hs
  · rw [hal, hend]
    rw [hans] at hx
    by_cases hst : s = t
    · subst hst
      rw [if_pos rfl] at hx ⊢
      rcases Nat.lt_or_ge k (ansT s m.el).length with hkl | hkl
      · rw [List.getElem?_append_left hkl] at hx
        rw [lkOf_told (h.tol s) h.al s k (by rw [h.tw s ht, ← h.ta s ht]; omega)]
        exact h.hist s hs k y d hx hd
      · have hke : k = (ansT s m.el).length := by
          have := (List.getElem?_eq_some_iff.1 hx).1
          rw [List.length_append] at this
          simp only [List.length_singleton] at this
          omega
        subst hke
        rw [List.getElem?_append_right (Nat.le_refl _), Nat.sub_self] at hx
        obtain rfl : x = y := Option.some.inj hx
        rw [h.ta s ht] at hd ⊢
        rw [hc] at hd
        obtain rfl := Option.some.inj hd
        rw [lkOf_told (h.tol s) h.al s _ (by rw [h.tw s ht]; omega)]
        exact hsaid
    · rw [if_neg hst] at hx ⊢
      exact h.hist s hs k y d hx hd
  · rw [hal] at ha
    obtain ⟨s, k, h1, h2, h3, h4⟩ := h.chg a ha hne
    refine ⟨s, k, h1, ?_, h3, ?_⟩
    · by_cases hst : s = t
      · subst hst; rw [updG_same, hj]; omega
      · rw [updG_ne _ _ hst]; exact h2
    · rw [hal, hend]
      by_cases hst : s = t
      · subst hst
        rw [if_pos rfl, lkOf_told (h.tol s) h.al s k (by rw [h.tw s h1]; exact h2)]
        exact h4
      · rw [if_neg hst]; exact h4

/-- A step, and where its thread goes. -/
theorem LnJ.go (h : LnJ n ls w0 gs v m) {t : Nat} (hc : canZ m t = true) (hk : m.k < 20000) : ∃ g' v' e, LS 1 ((ls t).map bodyG) (gs t) [v] g' [v'] e ∧ LnOut (ls t) (gs t) v (lkOf m.al (endT t m.el) t (gs t).j) g' v' e ∧ LnJ n ls w0 (updG gs t g') v' (stepZ m t).2 := by
  obtain ⟨ht, hd, hno⟩ := h.sys.can hc
  obtain ⟨g', v', e, hl, hout⟩ := ln_local h.rv (h.hf t ht) (h.th t ht) hd
  obtain ⟨hS, hss, hal, hel, hk'⟩ := h.sys.ls hc hk rfl hl
  refine ⟨g', v', e, hl, hout, ?_⟩
  cases hout with
  | quiet hv he hj hg =>
    subst hv
    refine h.go0 hS (by rcases he with rfl | ⟨_, rfl⟩ | ⟨_, _, rfl⟩ <;> exact hal) (by rcases he with rfl | ⟨_, rfl⟩ | ⟨_, _, rfl⟩ <;> exact hel) hk' hj hg
  | look hv he hj hg =>
    subst hv
    obtain ⟨o, rfl⟩ := he
    exact h.go1 ht hS hal hel hk' hj rfl rfl rfl rfl rfl h.rv (hg _ rfl rfl) fun hne => absurd rfl hne
  | swap hq hv hne he hj hjl hg =>
    subst he
    exact h.go1 ht hS hal hel hk' hj rfl rfl rfl rfl rfl hv (hg _ rfl rfl rfl) fun _ => ⟨rfl, hq, hjl⟩
  | say x c hv he hj hc hs hg =>
    subst hv he
    exact h.go2 ht hS hal hel hk' hj hc hs hg

theorem LnJ.poke (h : LnJ n ls w0 gs v m) (t : Int) : LnJ n ls w0 gs v (pokeZ m t) := ⟨h.sys.poke t, h.hf, h.rv, h.chain, h.al, h.el, h.tw, h.ta, h.jl, h.ei, h.th, h.hist, h.chg⟩

def LnI (n : Nat) (ls : Nat → List CallZ) (w0 : Int) (m : MZ) : Prop := ∃ gs v, LnJ n ls w0 gs v m

theorem LnI.step (h : LnI n ls w0 m) (t : Int) : LnI n ls w0 (stepZ m t).2 := by
  obtain ⟨gs, v, h⟩ := h
  rcases step_or h.sys.wf t with e | ⟨s, rfl, hc, hk⟩
  · rw [e]; exact ⟨gs, v, h⟩
  · obtain ⟨g', v', e, _, _, h2⟩ := h.go hc hk
    exact ⟨_, _, h2⟩

theorem LnI.poke (h : LnI n ls w0 m) (t : Int) : LnI n ls w0 (pokeZ m t) := by
  obtain ⟨gs, v, h⟩ := h
  exact ⟨gs, v, h.poke t⟩

end
end Go.Mac
end
