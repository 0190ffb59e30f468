/- What was done tells all: the cells are what all acts make of them, one behind the other. -/
import Derived.Test.YtdcpdfgpdomolaaGreatDoorGFinish
import Derived.Test.YtdcpdfgpdomolaaGreatDoorQMachNew
import Derived.Test.YtdcpdfgpdomolaaGreatDoorQApart
open Go Go.Proofs Go.Mac
set_option maxRecDepth 100000
namespace Go.Mac

/-- What acts make of cells; when the last one was. -/
def wsAt (ws : List Int) (al : List ActZ) : List Int := al.foldl (fun w a => rgS w a.c a.y) ws
def whenL (al : List ActZ) : Int := al.foldl (fun _ a => a.w) 0

theorem wsAt_snoc (ws : List Int) (al : List ActZ) (a : ActZ) : wsAt ws (al ++ [a]) = rgS (wsAt ws al) a.c a.y := by rw [wsAt, List.foldl_append]; rfl
theorem whenL_snoc (al : List ActZ) (a : ActZ) : whenL (al ++ [a]) = a.w := by rw [whenL, List.foldl_append]; rfl
theorem wsAt_len : ∀ (al : List ActZ) (ws : List Int), (wsAt ws al).length = ws.length
  | [], _ => rfl
  | a :: al, ws => (wsAt_len al (rgS ws a.c a.y)).trans rgS_len
theorem take_one {α : Type} {l : List α} {i : Nat} {x : α} (h : l[i]? = some x) : l.take (i + 1) = l.take i ++ [x] := by
  rw [List.take_add_one, h]; rfl

structure ActInv (ws : List Int) (n : Nat) (m : MZ) : Prop where
  len : m.ts.length = n
  cells : wsAt ws m.al = m.ws
  last : whenL m.al ≤ m.k
  each : ∀ (i : Nat) (a : ActZ), m.al[i]? = some a → (0 ≤ a.c ∧ a.c < ws.length) ∧ a.x = rgZ (wsAt ws (m.al.take i)) a.c ∧ whenL (m.al.take i) < a.w ∧ a.w ≤ m.k ∧ 0 ≤ a.t ∧ a.t < n ∧ (a.o = 6 → a.y = a.x)

variable {ws : List Int} {n : Nat} {m m' : MZ}

theorem ActInv.same (I : ActInv ws n m) (h1 : m'.al = m.al) (h2 : m'.ws = m.ws) (h3 : m'.ts.length = m.ts.length) (h4 : m.k ≤ m'.k) : ActInv ws n m' := by
  refine ⟨h3.trans I.len, by rw [h1, h2]; exact I.cells, by rw [h1]; have := I.last; omega, fun i a ha => ?_⟩
  rw [h1] at ha
  obtain ⟨a1, a2, a3, a4, a5⟩ := I.each i a ha
  rw [h1]
  exact ⟨a1, a2, a3, by omega, a5⟩

theorem ActInv.push (I : ActInv ws n m) (hk : whenL m.al < m.k) {t : Nat} (ht : t < n) {o c x y : Int} (hc : 0 ≤ c ∧ c < m.ws.length) (hx : x = rgZ m.ws c) (ho : o = 6 → y = x)
    (hal : m'.al = m.al ++ [⟨m.k, t, o, c, x, y⟩]) (hws : m'.ws = rgS m.ws c y) (h3 : m'.ts.length = m.ts.length) (h4 : m'.k = m.k) : ActInv ws n m' := by
  refine ⟨h3.trans I.len, ?_, ?_, fun i a ha => ?_⟩
  · rw [hal, wsAt_snoc, I.cells, hws]
  · rw [hal, whenL_snoc, h4]
    exact Int.le_refl _
  · rw [hal] at ha ⊢
    rw [h4]
    have hl : ws.length = m.ws.length := by rw [← I.cells, wsAt_len]
    rcases Nat.lt_trichotomy i m.al.length with h | h | h
    · rw [List.getElem?_append_left h] at ha
      rw [List.take_append_of_le_length (by omega)]
      exact I.each i a ha
    · subst h
      rw [List.getElem?_append_right (Nat.le_refl _), Nat.sub_self] at ha
      obtain rfl := Option.some.inj ha
      rw [List.take_append_of_le_length (Nat.le_refl _), List.take_length]
      exact ⟨by rw [hl]; exact hc, by rw [I.cells]; exact hx, hk, Int.le_refl _, by show (0 : Int) ≤ (t : Int); omega, by show (t : Int) < n; omega, ho⟩
    · rw [List.getElem?_eq_none (by simp; omega)] at ha
      cases ha

theorem rgS_same (l : List Int) (c : Int) : rgS l c (rgZ l c) = l := by
  unfold rgS rgZ
  rcases Nat.lt_or_ge c.toNat l.length with h | h
  · rw [List.getD_eq_getElem?_getD, List.getElem?_eq_getElem h]
    simp
  · rw [List.set_eq_of_length_le h]

theorem acts_far (I : ActInv ws n m) (hnc : m.ws.length = m.nc) (hk : whenL m.al < m.k) {t : Nat} {x : ThZ} {i : InsZ} {size : Int} (ht : t < n) (hr : rgok x.rg) (hi : okI m.nc size i = true) {m' : MZ} (hf : farZ m t x i = some m') (hl : localZ x i = none) : ActInv ws n m' := by
  obtain ⟨op, a, b, c, d⟩ := i
  obtain ⟨hop, f0, f1, f2, f3⟩ := okI_cut hi
  have key : op = 6 ∨ op = 8 ∨ op = 9 ∨ op = 14 ∨ op = 16 ∨ op = 7 ∨ op = 15 := by
    by_cases o6 : op = 6
    · omega
    by_cases o8 : op = 8
    · omega
    by_cases o9 : op = 9
    · omega
    by_cases o14 : op = 14
    · omega
    by_cases o16 : op = 16
    · omega
    have := far_op hop hl o6 o8 o9 o14 o16
    omega
  rcases key with rfl | rfl | rfl | rfl | rfl | ho
  · obtain rfl := Option.some.inj hf
    have hb := fit2 f1
    have hb' : 0 ≤ b ∧ b < (m.ws.length : Int) := ⟨hb.1, by rw [hnc]; exact hb.2⟩
    exact I.push hk ht hb' rfl (fun _ => rfl) rfl (rgS_same _ _).symm (by simp [MZ.act, MZ.th]) rfl
  · obtain rfl := Option.some.inj hf
    have hb := fit2 f1
    have hb' : 0 ≤ b ∧ b < (m.ws.length : Int) := ⟨hb.1, by rw [hnc]; exact hb.2⟩
    exact I.push hk ht hb' rfl (fun h => absurd h (by decide)) rfl rfl (by simp [MZ.act, MZ.th]) rfl
  · have hb := fit2 f1
    have hb' : 0 ≤ b ∧ b < (m.ws.length : Int) := ⟨hb.1, by rw [hnc]; exact hb.2⟩
    by_cases hs : rgZ m.ws b = rgZ x.rg c
    · have : farZ m t x ⟨9, a, b, c, d⟩ = some _ := if_pos hs
      rw [this] at hf
      obtain rfl := Option.some.inj hf
      exact I.push hk ht hb' rfl (fun h => absurd h (by decide)) rfl rfl (by simp [MZ.act, MZ.th]) rfl
    · have : farZ m t x ⟨9, a, b, c, d⟩ = some _ := if_neg hs
      rw [this] at hf
      obtain rfl := Option.some.inj hf
      exact I.push hk ht hb' rfl (fun h => absurd h (by decide)) rfl (rgS_same _ _).symm (by simp [MZ.act, MZ.th]) rfl
  · have hf' : (if rgZ m.ws a = rgZ x.rg b then ({ m with ss := m.ss ++ [⟨t, a⟩] } : MZ) else m) = m' := Option.some.inj hf
    subst hf'
    split
    · exact I.same rfl rfl rfl (Nat.le_refl _)
    · exact I
  · obtain rfl := Option.some.inj hf
    exact I.same rfl rfl rfl (Nat.le_refl _)
  · have hfar : farZ m t x ⟨op, a, b, c, d⟩ = match offZ x ⟨op, a, b, c, d⟩ with
      | none => none
      | some c => if c < m.nc then
          if op = 15 then some { m with ss := (wakeL c b 0 m.ss).2 }
          else some ({ m with ws := rgS m.ws c (rgZ x.rg b) }.act t op c (rgZ m.ws c) (rgZ x.rg b))
        else none := by rcases ho with rfl | rfl <;> rfl
    rw [hfar] at hf
    cases hoff : offZ x ⟨op, a, b, c, d⟩ with
    | none => rw [hoff] at hf; cases hf
    | some z =>
      rw [hoff] at hf
      dsimp only at hf
      by_cases h1 : z < m.nc
      · rw [if_pos h1] at hf
        by_cases h2 : op = 15
        · rw [if_pos h2] at hf
          obtain rfl := Option.some.inj hf
          exact I.same rfl rfl rfl (Nat.le_refl _)
        · rw [if_neg h2] at hf
          obtain rfl := Option.some.inj hf
          have h7 : op = 7 := by omega
          subst h7
          have ha := fit2 f0
          have hz : 0 ≤ z := by
            have hrg := rgZ_ok hr.2 c
            unfold offZ at hoff
            split at hoff
            · obtain rfl := Option.some.inj hoff; exact ha.1
            · split at hoff
              · cases hoff
              · obtain rfl := Option.some.inj hoff
                show (0 : Int) ≤ a + rgZ x.rg c
                omega
          exact I.push hk ht (by omega) rfl (fun h => absurd h (by decide)) rfl rfl rfl rfl
      · rw [if_neg h1] at hf; cases hf

theorem acts_step (I : ActInv ws n m) (hw : WF m) (t : Int) : ActInv ws n (stepZ m t).2 := by
  have hlast := I.last
  have hlen := I.len
  unfold stepZ
  split
  · exact I
  rename_i h0
  split
  · exact I
  rename_i hd
  split
  · exact I
  rename_i hs
  split
  · exact I
  rename_i hk
  obtain ⟨t, rfl⟩ := Int.eq_ofNat_of_zero_le (show 0 ≤ t by omega)
  rw [Int.toNat_natCast] at hd ⊢
  have ht : t < m.ts.length := by omega
  obtain ⟨x, hx⟩ : ∃ x, m.ts[t]? = some x := ⟨_, List.getElem?_eq_getElem ht⟩
  obtain ⟨p, hp⟩ : ∃ p, m.ps[t]? = some p := ⟨_, List.getElem?_eq_getElem (by have := hw.ps; omega)⟩
  have hth : thZ m t = x := thZ_get hx
  have hd : x.dn = false := by rw [← hth]; simpa using hd
  have hpc := (hw.pc t x p hx hp).2 hd
  obtain ⟨i, hi⟩ : ∃ i, p[x.pc]? = some i := ⟨_, List.getElem?_eq_getElem hpc⟩
  have hr : rgok x.rg := hw.rg x (List.mem_of_getElem? hx)
  have hok := hw.okI (List.mem_of_getElem? hp) (List.mem_of_getElem? hi)
  have I2 : ActInv ws n (onZ m t) := I.same rfl rfl (by simp [onZ, MZ.th]) (Nat.le_succ _)
  rw [goZ, doZ, hth, insZ_get hp hi]
  cases hl : localZ { x with pc := x.pc + 1 } i with
  | some x' => exact I2.same rfl rfl (by simp [MZ.th]) (Nat.le_refl _)
  | none =>
    dsimp only
    cases hf : farZ (onZ m t) t { x with pc := x.pc + 1 } i with
    | some m' =>
      dsimp only
      have hnc := hw.nc
      have hwx : (onZ m t).ws.length = (onZ m t).nc := hnc
      exact acts_far (t := t) (x := { x with pc := x.pc + 1 }) I2 hwx (by show whenL m.al < ((m.k + 1 : Nat) : Int); omega) (by omega) hr hok hf hl
    | none => exact I2.same rfl rfl (by simp [MZ.th]) (Nat.le_refl _)

theorem acts_moves : ∀ (l : List MoveZ) {m : MZ} (_ : ActInv ws n m) (_ : WF m), ActInv ws n (movesZ m l)
  | [], _, I, _ => I
  | x :: l, m, I, hw => by
    rw [movesZ, List.foldl_cons]
    have h : ActInv ws n (moveZ m x) := by
      rw [moveZ]
      split
      · exact I.same rfl rfl rfl (Nat.le_refl _)
      · exact acts_step I hw _
    have h2 : WF (moveZ m x) := hw.moves [x]
    exact acts_moves l h h2

theorem acts_mz0 (ps : List (List InsZ)) (ws : List Int) : ActInv ws ps.length (mz0 ps ws) :=
  ⟨by simp [mz0], rfl, Int.le_refl _, fun i a h => by simp [mz0] at h⟩

end Go.Mac
