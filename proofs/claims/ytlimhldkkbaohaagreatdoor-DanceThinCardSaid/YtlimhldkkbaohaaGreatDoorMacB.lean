/- Texts that belong together; the first of them: The machine of abstract values, part 4b: slices are what they are said to be. -/
import Derived.Test.YtlimhldkkbaohaaGreatDoorMacA
import Derived.Laws.MakeOwn
import Derived.Laws.Slices
import Derived.Laws.Strings
import Derived.Laws.BytesString
import Derived.MapKept
import Derived.WideKeyRuns

/- The machine of abstract values, part 4b: slices are what they are said to be. -/
section
namespace Go.Mac
open Go

section
variable {B R : Nat → Prop} {w0 : World} {N : Nat} {L : Nat → Loc} {H : List PO} {P : Program} {w : World} {K : AV → Prop}

theorem elemT_spec {t e : TypeId} (h : elemT P t = some e) : P.underlying t = some (.slice e) := by
  unfold elemT at h
  split at h <;> simp at h
  subst h; assumption

theorem arrT_spec {t e : TypeId} {n : Nat} (h : arrT P t = some (n, e)) : P.underlying t = some (.array n e) := by
  unfold arrT at h
  split at h <;> simp at h
  obtain ⟨rfl, rfl⟩ := h; assumption

theorem rowsSz_spec {e : TypeId} {sz : Nat} {k : Prop} (h : rowsSz P e sz k) : (P.info? e).isSome = true ∧ sz = szOf P e ∧ k := by
  simp only [rowsSz, cond_eq_ite] at h
  split at h <;> try exact h.elim
  split at h <;> try exact h.elim
  rename_i h1 h2
  exact ⟨h1, Nat.eq_of_beq_eq_true h2, h⟩

theorem Hdr.pos {h : ILoc} {o n : Nat} {c : Option Nat} {nn : Bool} {v : Value} (hh : Hdr h o n c nn v) (hn : 0 < n) : ∃ k, v = .slice (some (h.at o 0)) n k ∧ n ≤ k ∧ o + k ≤ h.cap ∧ (c = none → o + k = h.cap) := by
  rcases hh with ⟨_, h0, _⟩ | ⟨a, k, h1, h2, h3, h4, h5, h6⟩
  · omega
  · have := h6 (by omega)
    subst this
    exact ⟨k, h1, h2, h4, h5⟩

theorem run_indexAt {t e : TypeId} (ht : elemT P t = some e) (hi : (P.info? e).isSome = true) {a : Addr} {n k : Nat} {kd : IntKind} {j : Int} (h0 : 0 ≤ j) (h1 : j < n) :
    (Instr.indexAt t (.slice (some a) n k) (.int kd j)).run P w = .ok (.pointer (some (a.add (j.toNat * szOf P e)))) w := by
  have := run_indexAt_slice (P := P) w t a n k kd j (by
    have := elemT_spec ht
    simp [Program.elem, this])
  rw [this, if_pos ⟨h0, h1⟩]
  have he : P.elem t = e := by simp [Program.elem, elemT_spec ht]
  rw [he, run_sizeOf_some hi]
  rfl

theorem indexAddr_sound (h : Rel B R w0 L H w) {t : TypeId} {p q : AV} {v u : Value} (hp : VA H.length L p v) (hq : VA H.length L q u) (hs : indexAddrA P H t p q K) :
    ∃ r s, (Instr.indexAt t v u).run P w = .ok s w ∧ VA H.length L r s ∧ K r := by
  unfold indexAddrA at hs
  split at hs <;> try exact hs.elim
  rename_i kd j
  obtain rfl := hq
  split at hs
  · rename_i e he
    split at hs <;> try exact hs.elim
    · rename_i r o n c nn
      obtain ⟨hr, hh⟩ := hp
      rw [nth_eq] at hs
      split at hs <;> try exact hs.elim
      · rename_i ro sz rs hrs
        obtain ⟨hi, hsz, h0, h1, hK⟩ := rowsSz_spec hs
        obtain ⟨osz, _⟩ := h.obj r _ hrs
        obtain ⟨k, rfl, _⟩ := hh.pos (by omega)
        refine ⟨_, _, run_indexAt he hi h0 h1, ?_, hK⟩
        refine ⟨hr, ?_⟩
        rw [Addr.add_none _ _ rfl]
        simp [ILoc.at, osz, ← hsz, Nat.add_mul, Nat.add_assoc]
      · rename_i ro sz rs hrs
        obtain ⟨hi, hsz, h0, h1, hK⟩ := rowsSz_spec hs
        obtain ⟨osz, _⟩ := h.obj r _ hrs
        obtain ⟨k, rfl, _⟩ := hh.pos (by omega)
        refine ⟨_, _, run_indexAt he hi h0 h1, ?_, hK⟩
        refine ⟨hr, ?_⟩
        rw [Addr.add_none _ _ rfl]
        simp [ILoc.at, osz, ← hsz, Nat.add_assoc]
      · rename_i sz es hrs
        obtain ⟨hi, hsz, h0, h1, hK⟩ := rowsSz_spec hs
        obtain ⟨osz, _⟩ := h.obj r _ hrs
        obtain ⟨k, rfl, _⟩ := hh.pos (by omega)
        refine ⟨_, _, run_indexAt he hi h0 h1, ?_, hK⟩
        refine ⟨hr, ?_⟩
        rw [Addr.add_none _ _ rfl]
        simp [ILoc.at, osz, ← hsz, Nat.add_assoc]
    · rename_i r i o n c nn
      obtain ⟨hr, hh⟩ := hp
      rw [nth_eq] at hs
      split at hs <;> try exact hs.elim
      rename_i ro sz rss hrs
      obtain ⟨hi, hsz, hil, h0, h1, hK⟩ := rowsSz_spec hs
      obtain ⟨_, _, _, hc, _⟩ := h.obj r _ hrs
      obtain ⟨⟨osz, _⟩, _⟩ := hc i rss[i] (by simp [hil])
      obtain ⟨k, rfl, _⟩ := hh.pos (by omega)
      refine ⟨_, _, run_indexAt he hi h0 h1, ?_, hK⟩
      refine ⟨hr, ?_⟩
      rw [Addr.add_none _ _ rfl]
      simp [ILoc.at, osz, ← hsz, Nat.add_mul, Nat.add_assoc]
  · split at hs <;> try exact hs.elim
    rename_i n e he
    simp only [cond_eq_ite] at hs
    split at hs <;> try exact hs.elim
    rename_i hi
    have hrun : ∀ ad : Addr, 0 ≤ j → j < n → (Instr.indexAt t (.pointer (some ad)) (.int kd j)).run P w = .ok (.pointer (some (ad.add (j.toNat * szOf P e)))) w := fun ad h0 h1 => by
      simp only [Instr.indexAt, asIntOf, Sem.run_bind, Sem.run_pure, Result.andThen_ok, run_underlying_some (arrT_spec he), Instr.sureAddr]
      rw [Sem.run_ite, if_pos ⟨h0, h1⟩]
      simp [run_sizeOf_some hi]
    split at hs <;> try exact hs.elim
    all_goals obtain ⟨h0, h1, hK⟩ := hs
    rotate_left 2
    · obtain rfl := hp
      refine ⟨_, _, hrun _ h0 h1, ?_, hK⟩
      exact congrArg (fun x => Value.pointer (some x)) (Addr.add_none _ _ rfl)
    all_goals
      obtain ⟨hr, rfl⟩ := hp
      refine ⟨_, _, hrun _ h0 h1, ?_, hK⟩
      refine ⟨hr, ?_⟩
      rw [Addr.add_none _ _ rfl]
      simp [ILoc.at, Nat.add_assoc]

theorem bounds_sound {n : Nat} {lo hi : Option AV} {vlo vhi : Option Value} (hlo : (lo = none ∧ vlo = none) ∨ ∃ x v, lo = some x ∧ vlo = some v ∧ VA N L x v) (hhi : (hi = none ∧ vhi = none) ∨ ∃ x v, hi = some x ∧ vhi = some v ∧ VA N L x v)
    {k : Nat → Nat → Prop} (h : boundsA n lo hi k) : ∃ l m, l ≤ m ∧ m ≤ n ∧ (∀ cap b, n ≤ cap → (Instr.sliceBounds b n cap vlo vhi none).run P w = .ok (l, m, cap) w) ∧ k l m := by
  unfold boundsA at h
  split at h <;> try exact h.elim
  · rcases hlo with ⟨_, rfl⟩ | ⟨x, v, hx, _⟩ <;> try cases hx
    rcases hhi with ⟨_, rfl⟩ | ⟨x, v, hx, _⟩ <;> try cases hx
    exact ⟨0, n, Nat.zero_le _, Nat.le_refl _, fun cap b _ => by simp [Instr.sliceBounds], h⟩
  · rcases hlo with ⟨hx, _⟩ | ⟨x, v, hx, rfl, hv⟩ <;> cases hx
    rcases hhi with ⟨_, rfl⟩ | ⟨x, v, hx, _⟩ <;> try cases hx
    obtain rfl := hv
    obtain ⟨h0, h1, hk⟩ := h
    exact ⟨_, n, by omega, Nat.le_refl _, fun cap b _ => by simp [Instr.sliceBounds, FC.val, run_sliceBound, h0, h1], hk⟩
  · rcases hlo with ⟨_, rfl⟩ | ⟨x, v, hx, _⟩ <;> try cases hx
    rcases hhi with ⟨hx, _⟩ | ⟨x, v, hx, rfl, hv⟩ <;> cases hx
    obtain rfl := hv
    obtain ⟨h0, h1, hk⟩ := h
    rename_i hh _
    refine ⟨0, _, Nat.zero_le _, by omega, fun cap b hc => ?_, hk⟩
    have h2 : hh ≤ (cap : Int) := by omega
    simp [Instr.sliceBounds, FC.val, run_sliceBound, h0, h2]
  · rcases hlo with ⟨hx, _⟩ | ⟨x, v, hx, rfl, hv⟩ <;> cases hx
    rcases hhi with ⟨hx, _⟩ | ⟨x, v, hx, rfl, hv'⟩ <;> cases hx
    obtain rfl := hv
    obtain rfl := hv'
    obtain ⟨h0, h1, h2, hk⟩ := h
    rename_i l _ hh
    refine ⟨_, _, by omega, by omega, fun cap b hc => ?_, hk⟩
    have h3 : hh ≤ (cap : Int) := by omega
    have h4 : 0 ≤ hh := by omega
    have h5 : l ≤ (hh.toNat : Int) := by omega
    simp only [Instr.sliceBounds, FC.val, Sem.run_bind, Sem.run_pure, Result.andThen_ok]
    rw [run_sliceBound (h0 := h4) (h1 := h3)]
    simp only [Result.andThen_ok]
    rw [run_sliceBound (h0 := h0) (h1 := h5)]
    rfl

theorem boundsUp_sound {n m : Nat} {lo hi : Option AV} {vlo vhi : Option Value} (hlo : (lo = none ∧ vlo = none) ∨ ∃ x v, lo = some x ∧ vlo = some v ∧ VA N L x v) (hhi : (hi = none ∧ vhi = none) ∨ ∃ x v, hi = some x ∧ vhi = some v ∧ VA N L x v)
    {k : Nat → Nat → Prop} (h : boundsUpA m lo hi k) : ∃ l u, l ≤ u ∧ u ≤ m ∧ (∀ cap b, m ≤ cap → (Instr.sliceBounds b n cap vlo vhi none).run P w = .ok (l, u, cap) w) ∧ k l u := by
  unfold boundsUpA at h
  split at h <;> try exact h.elim
  · rcases hlo with ⟨_, rfl⟩ | ⟨x, v, hx, _⟩ <;> try cases hx
    rcases hhi with ⟨hx, _⟩ | ⟨x, v, hx, rfl, hv⟩ <;> cases hx
    obtain rfl := hv
    obtain ⟨h0, h1, hk⟩ := h
    rename_i hh _
    refine ⟨0, _, Nat.zero_le _, by omega, fun cap b hc => ?_, hk⟩
    have h2 : hh ≤ (cap : Int) := by omega
    simp [Instr.sliceBounds, FC.val, run_sliceBound, h0, h2]
  · rcases hlo with ⟨hx, _⟩ | ⟨x, v, hx, rfl, hv⟩ <;> cases hx
    rcases hhi with ⟨hx, _⟩ | ⟨x, v, hx, rfl, hv'⟩ <;> cases hx
    obtain rfl := hv
    obtain rfl := hv'
    obtain ⟨h0, h1, h2, hk⟩ := h
    rename_i l _ hh
    refine ⟨_, _, by omega, by omega, fun cap b hc => ?_, hk⟩
    have h3 : hh ≤ (cap : Int) := by omega
    have h4 : 0 ≤ hh := by omega
    have h5 : l ≤ (hh.toNat : Int) := by omega
    simp only [Instr.sliceBounds, FC.val, Sem.run_bind, Sem.run_pure, Result.andThen_ok]
    rw [run_sliceBound (h0 := h4) (h1 := h3)]
    simp only [Result.andThen_ok]
    rw [run_sliceBound (h0 := h0) (h1 := h5)]
    rfl

/-- A part of a slice has a header of its own. -/
theorem Hdr.part {h : ILoc} {o n : Nat} {c : Option Nat} {nn : Bool} {v : Value} (hh : Hdr h o n c nn v) {l m : Nat} (hl : l ≤ m) (hm : m ≤ n) {t e : TypeId} (ht : elemT P t = some e) (hi : (P.info? e).isSome = true) (hsz : h.sz = szOf P e)
    {vlo vhi : Option Value} (hb : ∀ cap, n ≤ cap → (Instr.sliceBounds true n cap vlo vhi none).run P w = .ok (l, m, cap) w) :
    ∃ u, (Instr.sliceAt t v vlo vhi none).run P w = .ok u w ∧ Hdr h (o + l) (m - l) (c.map (· - l)) (nn || Nat.blt 0 n) u := by
  have hu := elemT_spec ht
  have hrun : ∀ a k, n ≤ k → (Instr.sliceAt t (.slice a n k) vlo vhi none).run P w = .ok (sliced a l m k (szOf P e)) w := fun a k hk => by
    have he : P.elem t = e := by simp [Program.elem, hu]
    have h1 : P.underlying t = some (.slice (P.elem t)) := by rw [he]; exact hu
    rw [run_sliceAt_slice _ _ _ _ _ _ h1, run_slice_any _ _ _ _ _ h1, hb k hk, he]
    simp [Result.andThen, run_sizeOf_some hi]
  rcases hh with ⟨h0, h1, rfl, h2⟩ | ⟨a, k, rfl, h2, h3, h4, h5, h6⟩
  · subst h1
    refine ⟨_, hrun none 0 (by omega), .inl ⟨by rw [h0]; rfl, by omega, ?_, fun c' hc' => ?_⟩⟩
    · have : l = 0 := by omega
      subst this
      have : m = 0 := by omega
      subst this
      rfl
    · cases c with
      | none => simp at hc'
      | some c0 => simp at hc'; have := h2 c0 rfl; omega
  · refine ⟨_, hrun (some a) k h2, .inr ⟨if k = l then a else a.add (l * szOf P e), k - l, ?_, by omega, fun c' hc' => ?_, by omega, fun hc => ?_, fun hk => ?_⟩⟩
    · simp only [sliced]
      split <;> rfl
    · cases c with
      | none => simp at hc'
      | some c0 => simp at hc'; have := h3 c0 rfl; omega
    · have := h5 (by cases c <;> simp_all)
      omega
    · rw [if_neg (by omega), h6 (by omega), Addr.add_none _ _ rfl]
      simp [ILoc.at, hsz, Nat.add_mul, Nat.add_assoc]

/-- The same, beyond what the slice has, within what it may have. -/
theorem Hdr.partUp {h : ILoc} {o n : Nat} {v : Value} (hh : Hdr h o n none true v) {l m b : Nat} (hl : l ≤ m) (hm : m ≤ b) (hb0 : o + b ≤ h.cap) {t e : TypeId} (ht : elemT P t = some e) (hi : (P.info? e).isSome = true) (hsz : h.sz = szOf P e)
    {vlo vhi : Option Value} (hb : ∀ cap, b ≤ cap → (Instr.sliceBounds true n cap vlo vhi none).run P w = .ok (l, m, cap) w) :
    ∃ u, (Instr.sliceAt t v vlo vhi none).run P w = .ok u w ∧ Hdr h (o + l) (m - l) none true u := by
  have hu := elemT_spec ht
  have hrun : ∀ a k, b ≤ k → (Instr.sliceAt t (.slice a n k) vlo vhi none).run P w = .ok (sliced a l m k (szOf P e)) w := fun a k hk => by
    have he : P.elem t = e := by simp [Program.elem, hu]
    have h1 : P.underlying t = some (.slice (P.elem t)) := by rw [he]; exact hu
    rw [run_sliceAt_slice _ _ _ _ _ _ h1, run_slice_any _ _ _ _ _ h1, hb k hk, he]
    simp [Result.andThen, run_sizeOf_some hi]
  rcases hh with ⟨h0, _⟩ | ⟨a, k, rfl, h2, h3, h4, h5, h6⟩
  · cases h0
  · have hk := h5 rfl
    refine ⟨_, hrun (some a) k (by omega), .inr ⟨if k = l then a else a.add (l * szOf P e), k - l, ?_, by omega, (fun c' hc' => by cases hc'), by omega, (fun _ => by omega), fun hk => ?_⟩⟩
    · simp only [sliced]
      split <;> rfl
    · rw [if_neg (by omega), h6 (by omega), Addr.add_none _ _ rfl]
      simp [ILoc.at, hsz, Nat.add_mul, Nat.add_assoc]

theorem slice3_sound (h0 : Rel B R w0 L H w) {t : TypeId} {p l h m : AV} {v vl vh vm : Value} (hp : VA H.length L p v) (hl : VA H.length L l vl) (hh : VA H.length L h vh) (hm : VA H.length L m vm) (hs : slice3A P H t p l h m K) :
    ∃ r s, (Instr.sliceAt t v (some vl) (some vh) (some vm)).run P w = .ok s w ∧ VA H.length L r s ∧ K r := by
  unfold slice3A at hs
  split at hs <;> try exact hs.elim
  rename_i r o n c nn kl l kh h km m
  split at hs <;> try exact hs.elim
  rename_i e he
  simp only [cond_eq_ite] at hs
  split at hs <;> try exact hs.elim
  rename_i hi
  obtain ⟨g0, h1, h2, h3, hK⟩ := hs
  obtain rfl := hl
  obtain rfl := hh
  obtain rfl := hm
  obtain ⟨hrN, hd⟩ := hp
  have hd0 := hd
  have hu := elemT_spec he
  have hel : P.elem t = e := by simp [Program.elem, hu]
  have hu1 : P.underlying t = some (.slice (P.elem t)) := by rw [hel]; exact hu
  obtain ⟨a, k, rfl, hk⟩ : ∃ a k, v = .slice a n k ∧ n ≤ k := by
    rcases hd with ⟨_, hn, rfl, _⟩ | ⟨a, k, rfl, hk, _⟩
    · subst hn; exact ⟨none, 0, rfl, Nat.le_refl _⟩
    · exact ⟨some a, k, rfl, hk⟩
  obtain ⟨y, hy, hKy⟩ : ∃ y, VA H.length L y (sliced a l.toNat h.toNat m.toNat (szOf P e)) ∧ K y := by
    unfold cut3A at hK
    split at hK
    · rename_i ro sz rs hrs
      simp only [cond_eq_ite] at hK
      split at hK
      · rename_i hc
        have hc := Nat.eq_of_beq_eq_true hc
        rw [nth_eq] at hrs
        obtain ⟨osz, _, ocap, _⟩ := h0.obj r _ hrs
        refine ⟨cv (.slc r (o + l.toNat) (h.toNat - l.toNat) (some (m.toNat - l.toNat)) (nn || Nat.blt 0 n)), ⟨hrN, ?_⟩, hK⟩
        rcases hd0 with ⟨q0, q1, q2, q3⟩ | ⟨a', k', q1, q2, q3, q4, q5, q6⟩
        · cases q2
          obtain rfl : l = 0 := by omega
          obtain rfl : h = 0 := by omega
          obtain rfl : m = 0 := by omega
          exact .inl ⟨by rw [q0]; rfl, rfl, rfl, fun c' hc' => by cases hc'; rfl⟩
        · cases q1
          refine .inr ⟨if m.toNat = l.toNat then a' else a'.add (l.toNat * szOf P e), m.toNat - l.toNat, ?_, by omega, (fun c' hc' => by cases hc'; rfl), by omega, (fun hc' => by cases hc'), fun hk' => ?_⟩
          · simp only [sliced]
            split <;> rfl
          · rw [if_neg (by omega), q6 (by omega), Addr.add_none _ _ rfl]
            simp [ILoc.at, osz, hc, Nat.add_mul, Nat.add_assoc]
      · exact ⟨.u, trivial, hK⟩
    · exact ⟨.u, trivial, hK⟩
  refine ⟨y, sliced a l.toNat h.toNat m.toNat (szOf P e), ?_, hy, hKy⟩
  rw [run_sliceAt_slice _ _ _ _ _ _ hu1, run_slice_any _ _ _ _ _ hu1, hel]
  have e1 : (Instr.sliceBounds true n k (some (FC.int kl l).val) (some (FC.int kh h).val) (some (FC.int km m).val)).run P w = .ok (l.toNat, h.toNat, m.toNat) w := by
    simp only [Instr.sliceBounds, FC.val, Sem.run_bind, Sem.run_pure]
    rw [run_sliceBound (h0 := by omega) (h1 := by omega)]
    simp only [Result.andThen_ok]
    rw [run_sliceBound (h0 := by omega) (h1 := by omega)]
    simp only [Result.andThen_ok]
    rw [run_sliceBound (h0 := by omega) (h1 := by omega)]
    rfl
  rw [e1]
  simp only [Result.andThen, run_sizeOf_some hi]

theorem slice_sound (h : Rel B R w0 L H w) {t : TypeId} {p : AV} {v : Value} {lo hi mx : Option AV} {vlo vhi vmx : Option Value} (hp : VA H.length L p v)
    (hlo : (lo = none ∧ vlo = none) ∨ ∃ x v, lo = some x ∧ vlo = some v ∧ VA H.length L x v) (hhi : (hi = none ∧ vhi = none) ∨ ∃ x v, hi = some x ∧ vhi = some v ∧ VA H.length L x v)
    (hmx : (mx = none ∧ vmx = none) ∨ ∃ x v, mx = some x ∧ vmx = some v ∧ VA H.length L x v) (hs : sliceA P H t p lo hi mx K) :
    ∃ r s, (Instr.sliceAt t v vlo vhi vmx).run P w = .ok s w ∧ VA H.length L r s ∧ K r := by
  unfold sliceA at hs
  split at hs
  · split at hs <;> try exact hs.elim
    rcases hlo with ⟨hx, _⟩ | ⟨x1, v1, hx, rfl, g1⟩ <;> cases hx
    rcases hhi with ⟨hx, _⟩ | ⟨x2, v2, hx, rfl, g2⟩ <;> cases hx
    rcases hmx with ⟨hx, _⟩ | ⟨x3, v3, hx, rfl, g3⟩ <;> cases hx
    exact slice3_sound h hp g1 g2 g3 hs
  obtain ⟨_, rfl⟩ : none = (none : Option AV) ∧ vmx = none := by
    rcases hmx with hh | ⟨_, _, hx, _⟩
    · exact hh
    · cases hx
  split at hs <;> try exact hs.elim
  · rename_i s
    obtain rfl := hp
    split at hs <;> try exact hs.elim
    rename_i hu
    obtain ⟨l, m, hl, hm, hb, hK⟩ := bounds_sound (P := P) (w := w) hlo hhi hs
    replace hb := hb s.length false (Nat.le_refl _)
    refine ⟨st ((s.drop l).take (m - l)), .string ⟨((s.drop l).take (m - l)).toArray⟩, ?_, rfl, hK⟩
    rw [FC.val, run_sliceAt_string _ _ _ _ _ _ hu]
    have hsz : (ByteArray.mk s.toArray).size = s.length := rfl
    simp only [Instr.slice, Sem.run_bind, run_underlying_some hu, Result.andThen_ok, hsz]
    simp only [Option.isSome_none, Bool.false_eq_true, if_false, Sem.run_bind, Sem.run_pure, Result.andThen_ok, hb]
    congr 2
    apply ByteArray.ext
    simp only [ByteArray.data_extract]
    apply Array.ext'
    simp
  · rename_i r o n c nn
    obtain ⟨hr, hh⟩ := hp
    split at hs <;> try exact hs.elim
    · rename_i e ro sz rs he hrs
      rw [nth_eq] at hrs
      obtain ⟨hi', hsz, hs⟩ := rowsSz_spec hs
      obtain ⟨osz, _, ocap, _⟩ := h.obj r _ hrs
      rcases hs with hs | ⟨rfl, rfl, hor, hs⟩
      · obtain ⟨l, m, hl, hm, hb, hK⟩ := bounds_sound (P := P) (w := w) hlo hhi hs
        obtain ⟨u, hu1, hu2⟩ := hh.part hl hm he hi' (by omega) fun cap hc => hb cap true hc
        refine ⟨_, u, hu1, ?_, hK⟩
        exact ⟨hr, hu2⟩
      · obtain ⟨l, m, hl, hm, hb, hK⟩ := boundsUp_sound (P := P) (w := w) (n := n) hlo hhi hs
        obtain ⟨u, hu1, hu2⟩ := hh.partUp hl hm (by omega) he hi' (by omega) fun cap hc => hb cap true hc
        refine ⟨_, u, hu1, ?_, hK⟩
        exact ⟨hr, hu2⟩
    · rename_i e ro sz rs he hrs
      rw [nth_eq] at hrs
      obtain ⟨hi', hsz, hs⟩ := rowsSz_spec hs
      obtain ⟨osz, _⟩ := h.obj r _ hrs
      obtain ⟨l, m, hl, hm, hb, hK⟩ := bounds_sound (P := P) (w := w) hlo hhi hs
      obtain ⟨u, hu1, hu2⟩ := hh.part hl hm he hi' (by omega) fun cap hc => hb cap true hc
      refine ⟨_, u, hu1, ?_, hK⟩
      exact ⟨hr, hu2⟩
    · rename_i e ap sz es he hrs
      rw [nth_eq] at hrs
      obtain ⟨hi', hsz, hs⟩ := rowsSz_spec hs
      obtain ⟨osz, _⟩ := h.obj r _ hrs
      obtain ⟨l, m, hl, hm, hb, hK⟩ := bounds_sound (P := P) (w := w) hlo hhi hs
      obtain ⟨u, hu1, hu2⟩ := hh.part hl hm he hi' (by omega) fun cap hc => hb cap true hc
      refine ⟨_, u, hu1, ?_, hK⟩
      exact ⟨hr, hu2⟩
  · rename_i r i o n c nn
    obtain ⟨hr, hh⟩ := hp
    split at hs <;> try exact hs.elim
    rename_i e ro sz rss he hrs
    rw [nth_eq] at hrs
    obtain ⟨hi', hsz, hil, hs⟩ := rowsSz_spec hs
    obtain ⟨_, _, _, hc, _⟩ := h.obj r _ hrs
    obtain ⟨⟨osz, _⟩, _⟩ := hc i rss[i] (by simp [hil])
    obtain ⟨l, m, hl, hm, hb, hK⟩ := bounds_sound (P := P) (w := w) hlo hhi hs
    obtain ⟨u, hu1, hu2⟩ := hh.part hl hm he hi' (by omega) fun cap hc => hb cap true hc
    refine ⟨_, u, hu1, ?_, hK⟩
    exact ⟨hr, hu2⟩
  · obtain rfl := hp
    split at hs <;> try exact hs.elim
    rename_i e he
    obtain ⟨hi', hsz, hs⟩ := rowsSz_spec hs
    obtain ⟨l, m, hl, hm, hb, hK⟩ := bounds_sound (P := P) (w := w) hlo hhi hs
    have hu := elemT_spec he
    have he2 : P.elem t = e := by simp [Program.elem, hu]
    have h1 : P.underlying t = some (.slice (P.elem t)) := by rw [he2]; exact hu
    refine ⟨cv .nilslc, .slice none 0 0, ?_, rfl, hK⟩
    rw [run_sliceAt_slice _ _ _ _ _ _ h1, run_slice_any _ _ _ _ _ h1, hb 0 true (Nat.le_refl _), he2]
    obtain rfl : l = 0 := by omega
    obtain rfl : m = 0 := by omega
    simp [Result.andThen, run_sizeOf_some hi', sliced]

theorem len_sound {t ty : TypeId} {p : AV} {v : Value} (hp : VA N L p v) (hs : lenA P t p K) : ∃ r s, (Builtin.len_ #[t] ty #[v]).run P w = .ok s w ∧ VA N L r s ∧ K r := by
  unfold lenA at hs
  split at hs <;> try exact hs.elim
  all_goals
    split at hs <;> try exact hs.elim
    rename_i hu
  · obtain rfl := hp
    rename_i s
    exact ⟨i64 _, _, run_len_string w t ty _ hu, rfl, hs⟩
  all_goals
    have hrun : ∀ (b : Option Addr) (n c : Nat), (Builtin.len_ #[t] ty #[.slice b n c]).run P w = .ok (goInt n) w := fun b n c => run_len_slice w t ty b n c (by simp [Program.elem, hu])
  · obtain ⟨_, ⟨_, rfl, rfl, _⟩ | ⟨a, k, rfl, _⟩⟩ := hp <;> exact ⟨i64 _, _, hrun _ _ _, rfl, hs⟩
  · obtain ⟨_, ⟨_, rfl, rfl, _⟩ | ⟨a, k, rfl, _⟩⟩ := hp <;> exact ⟨i64 _, _, hrun _ _ _, rfl, hs⟩
  · obtain ⟨_, rfl, rfl, _⟩ | ⟨a, k, rfl, _⟩ := hp <;> exact ⟨i64 _, _, hrun _ _ _, rfl, hs⟩
  · obtain rfl := hp
    exact ⟨i64 _, _, hrun _ _ _, rfl, hs⟩
  · obtain ⟨rfl, rfl⟩ | ⟨a, k, rfl⟩ := hp <;> exact ⟨i64 _, _, hrun _ _ _, rfl, hs⟩

theorem index_sound {t : TypeId} {p q : AV} {v u : Value} (hp : VA N L p v) (hq : VA N L q u) (hs : indexA P t p q K) : ∃ r s, (Instr.index t v u).run P w = .ok s w ∧ VA N L r s ∧ K r := by
  unfold indexA at hs
  split at hs <;> try exact hs.elim
  · split at hs <;> try exact hs.elim
    rename_i s kd j _ hu
    obtain rfl := hp
    obtain rfl := hq
    obtain ⟨h0, b, hb, hK⟩ := hs
    have hlt := (List.getElem?_eq_some_iff.1 hb).1
    have hsz : (ByteArray.mk s.toArray).size = s.length := rfl
    refine ⟨fcv (.int .u8 b.toNat), .int .u8 b.toNat, ?_, rfl, hK⟩
    simp only [FC.val]
    rw [run_index_string _ _ _ _ _ hu, dif_pos ⟨h0, by rw [hsz]; omega⟩]
    congr 4
    have : (ByteArray.mk s.toArray)[j.toNat]'(by rw [hsz]; exact hlt) = s[j.toNat] := rfl
    rw [this]
    exact (List.getElem?_eq_some_iff.1 hb).2
  · rename_i cs kd j
    split at hs <;> try exact hs.elim
    rename_i n e he
    obtain ⟨vs, rfl, hvs⟩ := hp
    obtain rfl := hq
    have hrun : 0 ≤ j → j < (n : Int) → (P.info? e).isSome = true → (Instr.index t (.agg vs.toArray) (.int kd j)).run P w = (part e vs.toArray (j.toNat * szOf P e)).run P w := fun h0 h1 hi => by
      simp only [Instr.index, asIntOf, Sem.run_bind, Sem.run_pure, Result.andThen_ok, run_underlying_some (arrT_spec he), run_sizeOf_some hi, if_pos (show 0 ≤ j ∧ j < (n : Int) from ⟨h0, h1⟩)]
    split at hs <;> try exact hs.elim
    · rename_i hagg
      simp only [cond_eq_ite] at hs
      split at hs <;> try exact hs.elim
      rename_i hinfo
      obtain ⟨h0, h1, xs, hx, hK⟩ := hs
      refine ⟨.p (.agg xs), .agg (vs.toArray.extract (j.toNat * szOf P e) (j.toNat * szOf P e + szOf P e)), ?_, ⟨(vs.drop (j.toNat * szOf P e)).take (szOf P e), ?_, ?_⟩, hK⟩
      · refine (hrun h0 h1 hinfo).trans ?_
        simp only [part, Sem.run_bind, run_isAgg_some hagg, Result.andThen_ok, run_sizeOf_some hinfo, if_true, Sem.run_pure]
      · congr 1
        simp
      · subst hx
        have hl := hvs.length
        refine VCs.of_get (by simp [hl]) fun i x v hx hv => ?_
        rw [List.getElem?_take] at hx hv
        split at hx
        · rename_i hi
          rw [if_pos hi] at hv
          rw [List.getElem?_drop] at hx hv
          obtain ⟨v', hv', hr⟩ := hvs.get hx
          rw [hv] at hv'
          cases hv'
          exact hr
        · cases hx
    · rename_i hagg
      simp only [cond_eq_ite] at hs
      split at hs <;> try exact hs.elim
      rename_i hinfo
      obtain ⟨h0, h1, x, hx, hK⟩ := hs
      obtain ⟨v, hv, hr⟩ := hvs.get hx
      refine ⟨.p (.c x), v, ?_, hr, hK⟩
      refine (hrun h0 h1 hinfo).trans ?_
      simp only [part, Sem.run_bind, run_isAgg_some hagg, Result.andThen_ok, Bool.false_eq_true, if_false]
      simp [hv]

/-! ### Rows laid into memory -/

def vals (xs : List (List FC)) : List Value := xs.flatten.map FC.val

theorem flat_get {sz : Nat} : ∀ {xs : List (List FC)} (_ : ∀ r ∈ xs, r.length = sz) {i f : Nat} {r : List FC} {x : FC}, xs[i]? = some r → r[f]? = some x → (vals xs)[i * sz + f]? = some x.val
  | [], _, i, f, r, x, hi, _ => by simp at hi
  | y :: xs, hs, i, f, r, x, hi, hf => by
    have hy := hs y (by simp)
    simp only [vals, List.flatten_cons, List.map_append]
    cases i with
    | zero =>
      simp at hi; subst hi
      have : f < y.length := (List.getElem?_eq_some_iff.1 hf).1
      rw [Nat.zero_mul, Nat.zero_add, List.getElem?_append_left (by simpa using this), List.getElem?_map, hf]
      rfl
    | succ i =>
      have := flat_get (fun r hr => hs r (by simp [hr])) (xs := xs) (by simpa using hi) hf
      rw [List.getElem?_append_right (by simp [hy, Nat.add_mul]; omega)]
      rw [← this, vals]
      congr 1
      simp [hy, Nat.add_mul]
      omega

theorem vals_length {sz : Nat} : ∀ {xs : List (List FC)} (_ : ∀ r ∈ xs, r.length = sz), (vals xs).length = xs.length * sz
  | [], _ => by simp [vals]
  | y :: xs, hs => by
    have := vals_length (xs := xs) fun r hr => hs r (by simp [hr])
    simp only [vals, List.length_map] at this ⊢
    simp [hs y (by simp), this, Nat.add_mul]
    omega

theorem vals_get {sz : Nat} : ∀ {xs : List (List FC)} (_ : ∀ r ∈ xs, r.length = sz) (_ : 0 < sz) {j : Nat} {v : Value}, (vals xs)[j]? = some v →
    ∃ i f r x, j = i * sz + f ∧ f < sz ∧ xs[i]? = some r ∧ r[f]? = some x ∧ v = x.val
  | [], _, _, j, v, h => by simp [vals] at h
  | y :: xs, hs, hp, j, v, h => by
    have hy := hs y (by simp)
    simp only [vals, List.flatten_cons, List.map_append] at h
    rcases Nat.lt_or_ge j y.length with hj | hj
    · rw [List.getElem?_append_left (by simpa using hj), List.getElem?_map, Option.map_eq_some_iff] at h
      obtain ⟨x, hx, rfl⟩ := h
      exact ⟨0, j, y, x, by simp, by omega, rfl, hx, rfl⟩
    · rw [List.getElem?_append_right (by simpa using hj)] at h
      obtain ⟨i, f, r, x, h1, h2, h3, h4, h5⟩ := vals_get (fun r hr => hs r (by simp [hr])) hp (xs := xs) h
      simp only [List.length_map] at h1
      exact ⟨i + 1, f, r, x, by rw [Nat.add_mul]; omega, h2, by simpa using h3, h4, h5⟩

theorem vals_one {xs : List (List FC)} : ∀ v ∈ vals xs, OneCell v = true := by
  intro v hv
  obtain ⟨x, _, rfl⟩ := List.mem_map.1 hv
  cases x <;> rfl

/-- Rows in a block that nobody else has: what a new object of rows wants. -/
theorem rows_of_cells {w : World} {b cap sz n : Nat} {c : Array Value} {t : TypeId} {fr : Nat × Nat} {xs : List (List FC)} (hb : w.heap[b]? = some (.cells c t fr)) (hn : c.size = n) (hfr : ∀ i, i < c.size → ¬ (fr.1 ≤ i ∧ i < fr.2))
    (hsz : 0 < sz) (hcap : xs.length ≤ cap) (hle : cap * sz ≤ n) (hs : ∀ r ∈ xs, r.length = sz) (hg : ∀ (j : Nat) (v : Value), (vals xs)[j]? = some v → c[j]? = some v) (own : Bool) : RowsAt w own sz xs ⟨b, 0, cap, sz⟩ := by
  refine ⟨rfl, hsz, hcap, fun _ _ => ⟨rfl, n, hle, c, t, fr, hb, hn, hfr⟩, fun i r hi => ⟨hs r (List.mem_of_getElem? hi), fun f x hx => ?_⟩⟩
  have := hg _ _ (flat_get hs hi hx)
  simp [World.cell?, ILoc.at, hb, this]

/-- The cells of rows that stand in the world. -/
theorem RowsAt.vals {own : Bool} {sz : Nat} {rs : List (List FC)} {h : ILoc} (hr : RowsAt w own sz rs h) (o n : Nat) (hle : o + n ≤ rs.length) :
    (∀ r ∈ (rs.drop o).take n, r.length = sz) ∧ (vals ((rs.drop o).take n)).length = n * sz ∧
      ∀ (j : Nat) (v : Value), (Mac.vals ((rs.drop o).take n))[j]? = some v → w.cell? ((h.at o 0).add j) = some v := by
  obtain ⟨h1, h2, h3, h4, h5⟩ := hr
  have hs : ∀ r ∈ (rs.drop o).take n, r.length = sz := fun r hr => by
    obtain ⟨i, hi⟩ := List.mem_iff_getElem?.1 (List.mem_of_mem_take hr)
    rw [List.getElem?_drop] at hi
    exact (h5 _ _ hi).1
  refine ⟨hs, by rw [vals_length hs]; congr 1; simp; omega, fun j v hj => ?_⟩
  obtain ⟨i, f, r, x, rfl, hf, hi, hx, rfl⟩ := vals_get hs h2 hj
  rw [List.getElem?_take] at hi
  split at hi
  · rw [List.getElem?_drop] at hi
    have := (h5 _ _ hi).2 f x hx
    rw [Addr.add_none _ _ rfl]
    simpa [ILoc.at, h1, Nat.add_mul, Nat.add_assoc] using this
  · cases hi

theorem rowsOf_sound (h : Rel B R w0 L H w) {e : TypeId} {i : TypeInfo} (hi : P.info? e = some i) {x : AV} {v : Value} (hx : VA H.length L x v) {k : List (List FC) → Prop} (hs : rowsOfA P H e x k) :
    ∃ xs n, k xs ∧ xs.length = n ∧ (∀ r ∈ xs, r.length = i.size) ∧ ((n = 0 ∧ v = .slice none 0 0) ∨ ∃ a c, v = .slice (some a) n c ∧ ∀ (j : Nat) (u : Value), (vals xs)[j]? = some u → w.cell? (a.add j) = some u) := by
  have hszOf : szOf P e = i.size := by simp [szOf, hi]
  have key : ∀ (own : Bool) (rs : List (List FC)) (hd : ILoc) (o n : Nat) (c : Option Nat) (nn : Bool), RowsAt w own i.size rs hd → o + n ≤ rs.length → Hdr hd o n c nn v →
      (∀ r ∈ (rs.drop o).take n, r.length = i.size) ∧ ((rs.drop o).take n).length = n ∧
        ((n = 0 ∧ v = .slice none 0 0) ∨ ∃ a c, v = .slice (some a) n c ∧ ∀ (j : Nat) (u : Value), (vals ((rs.drop o).take n))[j]? = some u → w.cell? (a.add j) = some u) := by
    intro own rs hd o n c nn hr hle hh
    obtain ⟨h1, _, h3⟩ := hr.vals o n hle
    refine ⟨h1, by simp; omega, ?_⟩
    rcases hh with ⟨_, h0, hv, _⟩ | ⟨a, kk, hv, hnk, _, _, _, ha⟩
    · exact .inl ⟨h0, hv⟩
    · right
      refine ⟨a, kk, hv, fun j u hj => ?_⟩
      rcases Nat.eq_zero_or_pos n with hn0 | hn0
      · subst hn0; simp [vals] at hj
      · rw [ha (by omega)]; exact h3 j u hj
  unfold rowsOfA at hs
  split at hs <;> try exact hs.elim
  · obtain rfl := hx
    exact ⟨[], 0, hs, rfl, by simp, .inl ⟨rfl, rfl⟩⟩
  · rename_i r o n c nn
    obtain ⟨_, hh⟩ := hx
    rw [nth_eq] at hs
    split at hs <;> try exact hs.elim
    rename_i ro sz rs hrs
    simp only [cond_eq_ite] at hs
    split at hs <;> try exact hs.elim
    rename_i hb
    have hb := Nat.eq_of_beq_eq_true hb
    obtain ⟨hle, hk⟩ := hs
    have hor : RowsAt w (!ro) sz rs (L r).h := h.obj r _ hrs
    rw [hb, hszOf] at hor
    obtain ⟨h1, h2, h3⟩ := key _ _ _ o n c nn hor hle hh
    exact ⟨_, n, hk, h2, h1, h3⟩
  · rename_i r i' o n c nn
    obtain ⟨_, hh⟩ := hx
    rw [nth_eq] at hs
    split at hs <;> try exact hs.elim
    rename_i ro sz rss hrs
    simp only [cond_eq_ite] at hs
    split at hs <;> try exact hs.elim
    rename_i hb
    have hb := Nat.eq_of_beq_eq_true hb
    obtain ⟨rs, hrs', hle, hk⟩ := hs
    obtain ⟨_, _, _, hc, _⟩ := h.obj r _ hrs
    obtain ⟨hor, _⟩ := hc _ rs hrs'
    rw [hb, hszOf] at hor
    obtain ⟨h1, h2, h3⟩ := key _ _ _ o n c nn hor hle hh
    exact ⟨_, n, hk, h2, h1, h3⟩

/-- An object of rows is laid anew: in its own block, or in a new one. -/
theorem move_sound (h : Rel B R w0 L H w) {r : Nat} {sz sz' : Nat} {rs rs' : List (List FC)} (hr : H[r]? = some (.rows false sz rs)) {w' : World} (l' : ILoc)
    (hbel : Bel (fun k => k < w.heap.size ∧ ¬ ((L r).h.cap ≠ 0 ∧ k = (L r).h.blk)) w w') (hown : l'.cap ≠ 0 → l'.blk < w'.heap.size ∧ (w.heap.size ≤ l'.blk ∨ (L r).h.cap ≠ 0 ∧ l'.blk = (L r).h.blk))
    (hR : RowsAt w' true sz' rs' l') :
    Agree H.length [r] L (upd L r ⟨l', (L r).inn⟩) ∧ Rel B R w0 (upd L r ⟨l', (L r).inn⟩) ((H.map (killO [r])).set r (.rows false sz' rs')) w' := by
  have hlt := (List.getElem?_eq_some_iff.1 hr).1
  have hag : Agree H.length [r] L (upd L r ⟨l', (L r).inn⟩) := fun i _ hm => upd_ne (by simpa using hm)
  have hnB : ∀ k, B k → k < w.heap.size ∧ ¬ ((L r).h.cap ≠ 0 ∧ k = (L r).h.blk) := fun k hk => ⟨h.size k hk, fun hh => (h.own r _ k hr hh).1 hk⟩
  refine ⟨hag, h.put (M := [r]) r (.rows false sz' rs') (by simp) (List.getElem?_set_self (by simpa using hlt)) (fun j hj o ho => ?_) hag (fun j hj => upd_ne hj)
    ⟨hbel.os, hbel.tape, hbel.output, hbel.size, fun k hk => hbel.block k (hnB k hk)⟩ (fun b hb => ?_) (fun b hb => ?_) (fun b hb => hb.elim) ?_⟩
  · rw [List.getElem?_set_ne (Ne.symm hj), List.getElem?_map, Option.map_eq_some_iff] at ho
    obtain ⟨o0, h1, h2⟩ := ho
    exact ⟨o0, h1, h2.symm⟩
  · by_cases hh : (L r).h.cap ≠ 0 ∧ b = (L r).h.blk
    · exact .inr ⟨_, hr, hh⟩
    · exact .inl (hbel.block b ⟨hb, hh⟩)
  · rw [upd_self] at hb
    obtain ⟨hc, rfl⟩ := hb
    obtain ⟨h1, h2⟩ := hown hc
    rcases h2 with h2 | h2
    · exact ⟨fun hB => Nat.lt_irrefl _ (Nat.lt_of_lt_of_le (h.size _ hB) h2), h1, .inl h2⟩
    · exact ⟨(h.own r _ _ hr h2).1, h1, .inr ⟨_, hr, h2⟩⟩
  · rw [upd_self]; exact hR

/-- A new object of rows that needs no block yet. -/
theorem none_sound (h : Rel B R w0 L H w) (sz : Nat) (hsz : 0 < sz) : Agree H.length [] L (upd L H.length ⟨⟨0, 0, 0, sz⟩, fun _ => ⟨0, 0, 0, 0⟩⟩) ∧ Rel B R w0 (upd L H.length ⟨⟨0, 0, 0, sz⟩, fun _ => ⟨0, 0, 0, 0⟩⟩) (H ++ [.rows false sz []]) w := by
  have hag := upd_agree L ⟨⟨0, 0, 0, sz⟩, fun _ => ⟨0, 0, 0, 0⟩⟩ H.length []
  refine ⟨hag, h.put (M := []) H.length (.rows false sz []) (by simp) (by simp) (fun j hj o1 ho1 => ?_) hag (fun j hj => upd_ne hj) (Bel.refl _ _) (fun _ _ => .inl rfl) (fun b hb => ?_) (fun b hb => hb.elim) ?_⟩
  · rcases Nat.lt_or_gt_of_ne hj with hl | hg
    · rw [List.getElem?_append_left hl] at ho1
      exact ⟨o1, ho1, (killO_nil o1).symm⟩
    · rw [List.getElem?_eq_none (by simp; omega)] at ho1
      cases ho1
  · rw [upd_self] at hb; exact absurd rfl hb.1
  · rw [upd_self]; exact ⟨rfl, hsz, Nat.le_refl _, fun _ hc => absurd rfl hc, fun i r hi => by simp at hi⟩

theorem killHK_eq (M : List Nat) (H : List PO) (k : List PO → Prop) : killHK M H k = k (H.map (killO M)) := by
  cases M with
  | nil =>
    have : H.map (killO []) = H := by
      conv => rhs; rw [← List.map_id H]
      exact List.map_congr_left fun o _ => killO_nil o
    simp [killHK, this]
  | cons m M => rfl

/-- What an append takes: m elements, these cells. -/
def SrcAt (P : Program) (w : World) (u : TypeId) (sz m : Nat) (v : Value) (xs : List Value) : Prop :=
  (∃ e', P.underlying u = some (.slice e') ∧ ((m = 0 ∧ v = .slice none 0 0) ∨ ∃ b c, v = .slice (some b) m c ∧ ∀ (j : Nat) (z : Value), xs[j]? = some z → w.cell? (b.add j) = some z)) ∨
  (P.underlying u = some .string ∧ sz = 1 ∧ ∃ s : List UInt8, v = .string ⟨s.toArray⟩ ∧ m = s.length ∧ xs = s.map fun b => Value.int .u8 b.toNat)

theorem SrcAt.drew {u : TypeId} {sz m : Nat} {v : Value} {xs : List Value} (h : SrcAt P w u sz m v xs) : SrcAt P w.drew u sz m v xs := by
  rcases h with ⟨e', h1, h2⟩ | h
  · refine .inl ⟨e', h1, ?_⟩
    rcases h2 with h2 | ⟨b, c, h3, h4⟩
    · exact .inl h2
    · exact .inr ⟨b, c, h3, by simpa using h4⟩
  · exact .inr h

theorem SrcAt.first {u : TypeId} {sz m : Nat} {v : Value} {xs : List Value} (h : SrcAt P w u sz m v xs) (hl : xs.length = m * sz) : (Builtin.firstCells sz m v).run P w = .ok xs.toArray w ∧ (Builtin.lenOf v).run P w = .ok m w ∧
    ((∃ e', P.underlying u = some (.slice e')) ∨ P.underlying u = some .string) := by
  rcases h with ⟨e', h1, h2⟩ | ⟨h1, rfl, s, rfl, rfl, rfl⟩
  · refine ⟨?_, ?_, .inl ⟨_, h1⟩⟩
    · rcases h2 with ⟨rfl, rfl⟩ | ⟨b, c, rfl, hc⟩
      · have : xs = [] := List.length_eq_zero_iff.1 (by simpa using hl)
        subst this
        exact run_firstCells_none w _ _ _ _
      · exact run_firstCells_some w _ _ _ _ _ xs hl hc
    · rcases h2 with ⟨rfl, rfl⟩ | ⟨b, c, rfl, hc⟩ <;> rfl
  · refine ⟨?_, rfl, .inr h1⟩
    have e1 : (ByteArray.extract ⟨s.toArray⟩ 0 s.length).data = s.toArray := by
      rw [ByteArray.data_extract]
      simp
    simp only [Builtin.firstCells, Sem.run_pure, e1]
    congr 1
    simp

theorem run_append_in {t u ty e : TypeId} {i : TypeInfo} (ht : P.underlying t = some (.slice e)) (hi : P.info? e = some i) {a : Option Addr} {n k : Nat} {v : Value} {m : Nat} {xs : List Value}
    (hv : SrcAt P w u i.size m v xs) (hl : xs.length = m * i.size) (hle : n + m ≤ k) {w' : World}
    (hst : ∀ a0, a = some a0 → (storeCells (a0.add (n * i.size)) xs).run P w = .ok () w') (hno : a = none → w' = w) :
    (Builtin.append_ #[t, u] ty #[.slice a n k, v]).run P w = .ok (.slice a (n + m) k) w' := by
  obtain ⟨hf1, hf2, hu⟩ := hv.first hl
  cases a with
  | none =>
    have := hno rfl
    subst this
    rcases hu with ⟨e', hu⟩ | hu <;> simp [Builtin.append_, run_underlying_some ht, run_underlying_some hu, sizeOf, typeInfo, hi, hf1, hf2, hle]
  | some a0 =>
    rcases hu with ⟨e', hu⟩ | hu <;> simp [Builtin.append_, run_underlying_some ht, run_underlying_some hu, sizeOf, typeInfo, hi, hf1, hf2, hle, hst a0 rfl]

theorem run_append_out {t u ty e : TypeId} {i : TypeInfo} {z : Value} (ht : P.underlying t = some (.slice e)) (hi : P.info? e = some i) (hz : i.zero = some z) {s v : Value} {n m k : Nat} {os xs : List Value}
    (hs : (n = 0 ∧ k = 0 ∧ s = .slice none 0 0) ∨ ∃ b, s = .slice (some b) n k ∧ ∀ (j : Nat) (z : Value), os[j]? = some z → w.cell? (b.add j) = some z) (hlo : os.length = n * i.size)
    (hv : SrcAt P w u i.size m v xs) (hl : xs.length = m * i.size) (hlt : k < n + m)
    (h47 : (n + m) * i.bytes ≤ 140737488355328) (h63 : n + m ≤ 9223372036854775807) :
    (Builtin.append_ #[t, u] ty #[s, v]).run P w = .ok (.slice (some ⟨w.heap.size, 0, none⟩) (n + m) (grownCap w (n + m) k e))
      (w.drew.alloc (.cells (os.toArray ++ xs.toArray ++ Builtin.zeroCells z.cells (grownCap w (n + m) k e - (n + m))) e)) := by
  have hf : (Builtin.firstCells i.size m v).run P w.drew = .ok xs.toArray w.drew ∧ (Builtin.lenOf v).run P w = .ok m w := ⟨(hv.drew.first hl).1, (hv.first hl).2.1⟩
  obtain ⟨_, _, hu⟩ := hv.first hl
  have hn : ¬ (n + m ≤ k) := by omega
  have h63' : ¬ (9223372036854775807 < ((n : Int) + (m : Int))) := by omega
  have hfit := growslice_fits hlt h47
  have h48' : ¬ (281474976710656 < Builtin.nextslicecap (n + m) k * i.bytes) := by omega
  rcases hs with ⟨rfl, rfl, rfl⟩ | ⟨b, rfl, hb⟩
  · have : os = [] := List.length_eq_zero_iff.1 (by simpa using hlo)
    subst this
    have hm : m ≠ 0 := by omega
    have k1 : ¬ (9223372036854775807 < (m : Int)) := by omega
    have k2 : ¬ (281474976710656 < Builtin.nextslicecap m 0 * i.bytes) := by rwa [Nat.zero_add] at h48'
    have hf1 := hf.1
    have hf2 := hf.2
    rcases hu with ⟨e', hu⟩ | hu <;> simp [Builtin.append_, run_underlying_some ht, run_underlying_some hu, sizeOf, typeInfo, zeroValue, hi, hz, hf1, hf2, hm, k1, k2, Question.forced, run_firstCells_none, newRow, grownCap]
  · have hfo := run_firstCells_some (P := P) w.drew i.size n b n k os hlo (by simpa using hb)
    rcases hu with ⟨e', hu⟩ | hu
    all_goals
      simp [Builtin.append_, run_underlying_some ht, run_underlying_some hu, sizeOf, typeInfo, zeroValue, hi, hz, hf.1, hf.2, hn, h63', h48', Question.forced, hfo, newRow, grownCap]
      congr 2
      apply Array.ext'
      simp [List.append_assoc]

theorem zero_spec {e : TypeId} {i : TypeInfo} {z : PV} (hi : P.info? e = some i) (h : zval P e = .p z) : ∃ v, i.zero = some v ∧ VP N L z v := by
  unfold zval at h
  rw [hi] at h
  cases hz : i.zero with
  | none => simp [hz] at h
  | some v =>
    simp [hz] at h
    refine ⟨v, rfl, ?_⟩
    have := avOf_ok (N := N) (L := L) v
    rwa [h] at this

theorem info_some {e : TypeId} {i : TypeInfo} (hi : P.info? e = some i) : szOf P e = i.size := by simp [szOf, hi]

/-- A fresh row of cells behind an append. -/
theorem rows_fresh {w : World} {cap sz : Nat} {e : TypeId} {rs : List (List FC)} {zs : Array Value} (hsz : 0 < sz) (hs : ∀ r ∈ rs, r.length = sz) (hcap : rs.length ≤ cap) (hz : zs.size = (cap - rs.length) * sz) (own : Bool) :
    RowsAt (w.alloc (.cells ((vals rs).toArray ++ zs) e)) own sz rs ⟨w.heap.size, 0, cap, sz⟩ := by
  have hl := vals_length hs
  refine rows_of_cells (c := (vals rs).toArray ++ zs) (n := cap * sz) (heap_alloc_eq w _) ?_ (by simp) hsz hcap (Nat.le_refl _) hs (fun j v hj => ?_) own
  · simp only [Array.size_append, List.size_toArray, hl, hz, ← Nat.add_mul]
    congr 1; omega
  · have : j < (vals rs).length := (List.getElem?_eq_some_iff.1 hj).1
    rw [Array.getElem?_append_left (by simpa using this)]
    simpa using hj

theorem isU8_spec0 {e : TypeId} (h : isU8 P e = true) : P.underlying e = some (.int .u8) := by
  unfold isU8 at h
  split at h
  · assumption
  · cases h

theorem src_sound (h : Rel B R w0 L H w) {e u : TypeId} {i : TypeInfo} (hi : P.info? e = some i) {x : AV} {v : Value} (hx : VA H.length L x v) {k : List (List FC) → Prop} (hs : srcA P H e u x k) :
    ∃ xs n, k xs ∧ xs.length = n ∧ (∀ r ∈ xs, r.length = i.size) ∧ SrcAt P w u i.size n v (vals xs) := by
  unfold srcA at hs
  split at hs
  · rename_i e' he'
    obtain ⟨xs, n, h1, h2, h3, h4⟩ := rowsOf_sound h hi hx hs
    exact ⟨xs, n, h1, h2, h3, .inl ⟨e', elemT_spec he', h4⟩⟩
  · split at hs <;> try exact hs.elim
    rename_i s hu
    obtain rfl : v = _ := hx
    simp only [cond_eq_ite, Bool.and_eq_true] at hs
    split at hs <;> try exact hs.elim
    rename_i hc
    have hsz : i.size = 1 := by
      have := Nat.eq_of_beq_eq_true hc.2
      simpa [szOf, hi] using this
    have hvals : ∀ l : List UInt8, vals (l.map fun b => [FC.int .u8 (b.toNat : Int)]) = l.map fun b => Value.int .u8 (b.toNat : Int) := by
      intro l
      induction l with
      | nil => rfl
      | cons b l ih =>
        simp only [vals, List.map_cons, List.flatten_cons, List.map_append] at ih ⊢
        rw [ih]
        rfl
    refine ⟨_, s.length, hs, by simp, fun r hr => ?_, .inr ⟨hu, hsz, s, rfl, rfl, hvals s⟩⟩
    obtain ⟨b, _, rfl⟩ := List.mem_map.1 hr
    rw [hsz]; rfl

theorem append_sound (h : Rel B R w0 L H w) {ts : List TypeId} {ty : TypeId} {s x : AV} {v u : Value} (hs : VA H.length L s v) (hx : VA H.length L x u) {K : AV → List Nat → List PO → Prop} (ha : appendA P H ts s x K) :
    ∃ r w', (Builtin.append_ ts.toArray ty #[v, u]).run P w = .ok r w' ∧ Left B R w0 H.length L K r w' := by
  unfold appendA at ha
  split at ha <;> try exact ha.elim
  rename_i t u'
  split at ha <;> try exact ha.elim
  rename_i e he
  split at ha <;> try exact ha.elim
  rename_i i z hi hz
  simp only [cond_eq_ite, Bool.and_eq_true] at ha
  split at ha <;> try exact ha.elim
  rename_i hc
  have hsz : 0 < i.size := by simpa [Nat.blt_eq] using hc.1
  obtain ⟨zv, hzv, hzr⟩ := zero_spec (N := H.length) (L := L) hi hz
  have hzc : zv.cells.size = i.size := by
    have h1 := (VP.cells hzr).length
    have h2 := lenIs_spec _ _ hc.2
    rw [← h2, h1]; simp
  have ht := elemT_spec he
  obtain ⟨xs, m, ha2, hxm, hxs, hxv⟩ := src_sound h hi hx ha
  clear ha
  have ha := ha2
  clear ha2
  have hxl := vals_length hxs
  rw [hxm] at hxl
  have hzeros : ∀ n c : Nat, (Builtin.zeroCells zv.cells (c - n)).size = (c - n) * i.size := fun n c => by rw [size_zeroCells, hzc]
  split at ha <;> try exact ha.elim
  · -- of nil
    obtain ⟨h47, h63, hK⟩ := ha
    have hK := snocK_spec hK
    obtain rfl := hs
    rw [hxm] at h47 h63 hK
    rcases Nat.eq_zero_or_pos m with hm | hm
    · subst hm
      have hx0 : xs = [] := List.length_eq_zero_iff.1 hxm
      subst hx0
      obtain ⟨h1, h2⟩ := none_sound h i.size hsz
      refine ⟨_, w, run_append_in (a := none) ht hi hxv (by simpa using hxl) (by omega) (fun a0 ha0 => by cases ha0) (fun _ => rfl), _, _, _, _, h1, by simp, ?_, h2, hK⟩
      exact ⟨by simp, .inl ⟨rfl, rfl, rfl, by simp⟩⟩
    · have hr := run_append_out (P := P) (w := w) (ty := ty) (os := []) (n := 0) (k := 0) ht hi hzv (.inl ⟨rfl, rfl, rfl⟩) (by simp) hxv (by simpa using hxl) (by omega) (by simpa using h47) (by simpa using h63)
      simp only [Nat.zero_add, Array.empty_append] at hr
      have hcap := grownCap_ge w m 0 e
      have hR := fun own => rows_fresh (w := w.drew) (e := e) (cap := grownCap w m 0 e) (zs := Builtin.zeroCells zv.cells (grownCap w m 0 e - m)) hsz hxs (by omega) (by rw [hxm]; exact hzeros _ _) own
      obtain ⟨h1, h2⟩ := alloc_sound h.drew (.rows false i.size xs) ⟨⟨w.heap.size, 0, grownCap w m 0 e, i.size⟩, fun _ => ⟨0, 0, 0, 0⟩⟩ ((vals xs).toArray ++ Builtin.zeroCells zv.cells (grownCap w m 0 e - m)) e
        (fun b hb => hb.2) (fun b hb => hb) (hR true)
      refine ⟨_, _, by simpa using hr, _, _, _, _, h1, by simp, ?_, h2, hK⟩
      refine ⟨by simp, .inr ⟨_, grownCap w m 0 e, rfl, hcap, by simp, ?_, ?_, fun _ => ?_⟩⟩ <;> rw [upd_self] <;> simp [ILoc.at]
  · rename_i r o n c nn
    obtain ⟨hrN, hh⟩ := hs
    rw [nth_eq] at ha
    split at ha <;> try exact ha.elim
    rename_i sz rs hrs
    split at ha <;> try exact ha.elim
    rename_i hb
    have hb := Nat.eq_of_beq_eq_true hb
    subst hb
    have hor : RowsAt w true i.size rs (L r).h := h.obj r _ hrs
    obtain ⟨osz, _, ocap, oown, ocell⟩ := hor
    rcases ha with ⟨rfl, hnr, h47, h63, hK⟩ | hB
    · -- a longer one
      rw [killHK_eq, setK_eq, hxm] at hK
      rw [hxm] at h47 h63
      have hrsl : ∀ q ∈ rs, q.length = i.size := fun q hq => by
        obtain ⟨j, hj⟩ := List.mem_iff_getElem?.1 hq
        exact (ocell j q hj).1
      have hall : ∀ q ∈ rs ++ xs, q.length = i.size := fun q hq => by
        rcases List.mem_append.1 hq with hq | hq
        · exact hrsl q hq
        · exact hxs q hq
      have hvl := vals_length hrsl
      obtain ⟨_, hvl2, hvc⟩ := RowsAt.vals (w := w) (own := true) (h := (L r).h) (rs := rs) ⟨osz, hsz, ocap, oown, ocell⟩ 0 rs.length (by omega)
      simp only [List.drop_zero, List.take_length] at hvl2 hvc
      -- whatever world it comes to
      have fin : ∀ (rv : Value) (w' : World) (l' : ILoc), Bel (fun k => k < w.heap.size ∧ ¬ ((L r).h.cap ≠ 0 ∧ k = (L r).h.blk)) w w' → (l'.cap ≠ 0 → l'.blk < w'.heap.size ∧ (w.heap.size ≤ l'.blk ∨ (L r).h.cap ≠ 0 ∧ l'.blk = (L r).h.blk)) →
          RowsAt w' true i.size (rs ++ xs) l' → Hdr l' 0 (n + m) none nn rv → Left B R w0 H.length L K rv w' := by
        intro rv w' l' k1 k2 k3 k4
        obtain ⟨h1, h2⟩ := move_sound h hrs l' k1 k2 k3
        refine ⟨_, _, _, _, h1, by simp, ?_, h2, hK⟩
        refine ⟨by simpa using hrN, ?_⟩
        rw [upd_self]
        exact k4
      have out : ∀ k, ((n = 0 ∧ k = 0 ∧ v = .slice none 0 0) ∨ ∃ b, v = .slice (some b) n k ∧ ∀ (j : Nat) (z : Value), (vals rs)[j]? = some z → w.cell? (b.add j) = some z) → k < n + m →
          ∃ rv w', (Builtin.append_ [t, u'].toArray ty #[v, u]).run P w = .ok rv w' ∧ Left B R w0 H.length L K rv w' := by
        intro k hv hlt
        have hr := run_append_out (P := P) (w := w) (ty := ty) (os := vals rs) ht hi hzv hv (by rw [hvl, hnr]) hxv (by simpa using hxl) hlt h47 h63
        have hcap := grownCap_ge w (n + m) k e
        have hva : (vals rs).toArray ++ (vals xs).toArray = (vals (rs ++ xs)).toArray := by simp [vals]
        rw [hva] at hr
        have hR := rows_fresh (w := w.drew) (e := e) (cap := grownCap w (n + m) k e) (zs := Builtin.zeroCells zv.cells (grownCap w (n + m) k e - (n + m))) hsz hall (by simp; omega) (by rw [hzeros]; simp; congr 1; omega) true
        refine ⟨_, _, by simpa using hr, fin _ _ ⟨w.heap.size, 0, grownCap w (n + m) k e, i.size⟩ ?_ (fun _ => ⟨by simp, .inl (Nat.le_refl _)⟩) hR (.inr ⟨_, _, rfl, hcap, by simp, by simp, by simp, fun _ => by simp [ILoc.at]⟩)⟩
        exact ((Bel.refl _ w).drew).trans ⟨rfl, rfl, rfl, by simp, fun q hq => heap_alloc_lt _ _ _ (by simpa using hq.1)⟩
      rcases hh with ⟨hnn, hn0, hv, _⟩ | ⟨a, k, hv, hnk, _, hok, hoc, hat⟩
      · -- it was nil
        subst hn0
        rcases Nat.eq_zero_or_pos m with hm | hm
        · subst hm
          have hx0 : xs = [] := List.length_eq_zero_iff.1 hxm
          have hr0 : rs = [] := List.length_eq_zero_iff.1 (by omega)
          subst hx0; subst hr0; subst hv
          refine ⟨_, w, run_append_in (a := none) ht hi hxv (by simpa using hxl) (by omega) (fun a0 ha0 => by cases ha0) (fun _ => rfl), fin _ w ⟨0, 0, 0, i.size⟩ (Bel.refl _ _) (fun hc => absurd rfl hc) ⟨rfl, hsz, Nat.le_refl _, fun _ hc => absurd rfl hc, fun i r hi => by simp at hi⟩ (.inl ⟨hnn, rfl, rfl, by simp⟩)⟩
        · exact out 0 (.inl ⟨rfl, rfl, hv⟩) (by omega)
      · rcases Nat.lt_or_ge k (n + m) with hlt | hge
        · refine out k (.inr ⟨a, hv, fun j z hj => ?_⟩) hlt
          have : j < n * i.size := by have := (List.getElem?_eq_some_iff.1 hj).1; rw [hvl, ← hnr] at this; exact this
          have hn0 : n ≠ 0 := fun e => by subst e; simp at this
          rw [hat (by omega)]
          exact hvc j z hj
        · -- there is room
          subst hv
          rcases Nat.eq_zero_or_pos m with hm | hm
          · subst hm
            have hx0 : xs = [] := List.length_eq_zero_iff.1 hxm
            subst hx0
            refine ⟨_, w, run_append_in (a := some a) ht hi hxv (by simpa using hxl) (by omega) (fun a0 _ => by simp [vals, storeCells]) (fun ha0 => by cases ha0), fin _ w ⟨(L r).h.blk, (L r).h.base, k, i.size⟩ (Bel.refl _ _)
              (fun hk => ⟨(h.own r _ _ hrs ⟨by simp at hk; omega, rfl⟩).2.1, .inr ⟨by simp at hk; omega, rfl⟩⟩)
              ⟨rfl, hsz, by simp; omega, fun _ hk => by
                obtain ⟨hb0, q, hq, hcc⟩ := oown rfl (by simp at hk; omega)
                exact ⟨hb0, q, Nat.le_trans (Nat.mul_le_mul_right _ (by simp; omega)) hq, hcc⟩, fun j q hq => by
                have := ocell j q (by simpa using hq)
                simpa [ILoc.at, osz] using this⟩ (.inr ⟨a, k, rfl, by omega, by simp, by simp, by simp, fun hk => by rw [hat hk]; simp [ILoc.at, osz]⟩)⟩
          · have hk0 : k ≠ 0 := by omega
            have hcap0 : (L r).h.cap ≠ 0 := by omega
            obtain ⟨hb0, q, hq, cc, ct, cfr, hblk, hcs, hfr⟩ := oown rfl hcap0
            have ha := hat hk0
            have hkq : k * i.size ≤ q := Nat.le_trans (Nat.mul_le_mul_right _ (by omega)) hq
            have hfit : n * i.size + (vals xs).length ≤ q := by
              rw [hxl, ← Nat.add_mul]; exact Nat.le_trans (Nat.mul_le_mul_right _ hge) hkq
            obtain ⟨w', c', hrun, hbel, hkk, hzz, hb', hc', hout, hin⟩ := run_storeCells' (P := P) (a := ⟨(L r).h.blk, n * i.size, none⟩) rfl (vals xs) w cc 0 hblk (by simpa [hcs] using hfit) hfr vals_one
            have haa : a.add (n * i.size) = ⟨(L r).h.blk, n * i.size, none⟩ := by rw [ha, Addr.add_none _ _ rfl]; simp [ILoc.at, hb0]
            refine ⟨_, w', run_append_in (a := some a) ht hi hxv (by simpa using hxl) hge (fun a0 ha0 => by cases ha0; rw [haa]; exact hrun) (fun ha0 => by cases ha0), fin _ w' ⟨(L r).h.blk, 0, k, i.size⟩
              ⟨hbel.os, hbel.tape, hbel.output, hbel.size, fun b hb => hbel.block b fun e => hb.2 ⟨hcap0, e⟩⟩ (fun _ => ⟨Nat.lt_of_lt_of_le (h.own r _ _ hrs ⟨hcap0, rfl⟩).2.1 (by omega), .inr ⟨hcap0, rfl⟩⟩) ?_
              (.inr ⟨a, k, rfl, hge, by simp, by simp, by simp, fun _ => by rw [ha]; simp [ILoc.at, hb0]⟩)⟩
            refine rows_of_cells hb' (by rw [hc', hcs]) (by rw [hc']; exact hfr) hsz (by simp; omega) hkq hall (fun j z hj => ?_) true
            have hva : vals (rs ++ xs) = vals rs ++ vals xs := by simp [vals]
            rw [hva] at hj
            rcases Nat.lt_or_ge j (vals rs).length with hjl | hjl
            · rw [List.getElem?_append_left hjl] at hj
              have := hvc j z hj
              rw [Addr.add_none _ _ rfl] at this
              simp only [World.cell?, ILoc.at, hb0, hblk] at this
              rw [hout j (by left; rw [hvl, ← hnr] at hjl; simpa using hjl)]
              simpa using this
            · rw [List.getElem?_append_right hjl] at hj
              have := hin _ z hj
              rw [hvl, ← hnr] at this hjl
              simp only [Nat.add_zero] at this
              rwa [show n * i.size + (j - n * i.size) = j by omega] at this
    cases c with
    | some c' =>
      -- no room: a new one
      obtain ⟨rfl, h0x, hle, h47, h63, hK⟩ := hB
      have hK := snocK_spec hK
      rw [hxm] at h0x h47 h63 hK
      have hrsl : ∀ q ∈ rs, q.length = i.size := fun q hq => by
        obtain ⟨j, hj⟩ := List.mem_iff_getElem?.1 hq
        exact (ocell j q hj).1
      obtain ⟨hps, hvl2, hvc⟩ := RowsAt.vals (w := w) (own := true) (h := (L r).h) (rs := rs) ⟨osz, hsz, ocap, oown, ocell⟩ o c' hle
      have hall : ∀ q ∈ (rs.drop o).take c' ++ xs, q.length = i.size := fun q hq => by
        rcases List.mem_append.1 hq with hq | hq
        · exact hps q hq
        · exact hxs q hq
      have hlen : ((rs.drop o).take c').length = c' := by rw [List.length_take, List.length_drop]; omega
      have hv : ∃ k, k < c' + m ∧ ((c' = 0 ∧ k = 0 ∧ v = .slice none 0 0) ∨ ∃ b, v = .slice (some b) c' k ∧ ∀ (j : Nat) (z : Value), (vals ((rs.drop o).take c'))[j]? = some z → w.cell? (b.add j) = some z) := by
        rcases hh with ⟨_, hn0, hv, _⟩ | ⟨a, k, hv, hnk, hkc, hok, hoc, hat⟩
        · exact ⟨0, by omega, .inl ⟨hn0, rfl, hv⟩⟩
        · refine ⟨k, by have := hkc c' rfl; omega, .inr ⟨a, hv, fun j z hj => ?_⟩⟩
          have hj2 : j < c' * i.size := by have := (List.getElem?_eq_some_iff.1 hj).1; rw [hvl2] at this; exact this
          have hc0 : c' ≠ 0 := fun e => by subst e; simp at hj2
          rw [hat (by omega)]
          exact hvc j z hj
      obtain ⟨k, hlt, hv⟩ := hv
      have hr := run_append_out (P := P) (w := w) (ty := ty) (os := vals ((rs.drop o).take c')) ht hi hzv hv (by rw [hvl2]) hxv (by simpa using hxl) hlt h47 h63
      have hcap := grownCap_ge w (c' + m) k e
      have hva : (vals ((rs.drop o).take c')).toArray ++ (vals xs).toArray = (vals ((rs.drop o).take c' ++ xs)).toArray := by simp [vals]
      rw [hva] at hr
      have hR := rows_fresh (w := w.drew) (e := e) (cap := grownCap w (c' + m) k e) (zs := Builtin.zeroCells zv.cells (grownCap w (c' + m) k e - (c' + m))) hsz hall (by simp only [List.length_append, hlen]; omega) (by rw [hzeros]; simp only [List.length_append, hlen]; congr 1; omega) true
      obtain ⟨h1, h2⟩ := alloc_sound h.drew (.rows false i.size ((rs.drop o).take c' ++ xs)) ⟨⟨w.heap.size, 0, grownCap w (c' + m) k e, i.size⟩, fun _ => ⟨0, 0, 0, 0⟩⟩ ((vals ((rs.drop o).take c' ++ xs)).toArray ++ Builtin.zeroCells zv.cells (grownCap w (c' + m) k e - (c' + m))) e
        (fun b hb => hb.2) (fun b hb => hb) hR
      refine ⟨_, _, by simpa using hr, _, _, _, _, h1, by simp, ?_, h2, hK⟩
      refine ⟨by simp, .inr ⟨_, grownCap w (c' + m) k e, rfl, hcap, by simp, ?_, ?_, fun _ => ?_⟩⟩ <;> rw [upd_self] <;> simp [ILoc.at]
    | none =>
      -- within what it has
      obtain ⟨_, rfl, hle, hK⟩ := hB
      rw [setK_eq, hxm] at hK
      rw [hxm] at hle
      rcases hh with ⟨hnn, _⟩ | ⟨a, k, hv, hnk, _, hok, hoc, hat⟩
      · cases hnn
      subst hv
      have hk := hoc rfl
      have hrsl : ∀ q ∈ rs, q.length = i.size := fun q hq => by
        obtain ⟨j, hj⟩ := List.mem_iff_getElem?.1 hq
        exact (ocell j q hj).1
      rcases Nat.eq_zero_or_pos m with hm | hm
      · subst hm
        have hx0 : xs = [] := List.length_eq_zero_iff.1 hxm
        subst hx0
        have hset : H.set r (.rows false i.size (rs.take (o + n) ++ [] ++ rs.drop (o + n + 0))) = H := List.ext_getElem? fun j => by
          by_cases hj : j = r
          · subst hj; rw [List.getElem?_set_self (List.getElem?_eq_some_iff.1 hrs).1, hrs]; simp
          · rw [List.getElem?_set_ne (Ne.symm hj)]
        rw [hset] at hK
        refine ⟨_, w, run_append_in (a := some a) ht hi hxv (by simpa using hxl) (by omega) (fun a0 _ => by simp [vals, storeCells]) (fun ha0 => by cases ha0), L, _, _, _, Agree.refl _ _ _, Nat.le_refl _, ?_, h, hK⟩
        exact ⟨hrN, .inr ⟨a, k, rfl, by omega, by simp, hok, hoc, hat⟩⟩
      · have hk0 : k ≠ 0 := by omega
        have hcap0 : (L r).h.cap ≠ 0 := by omega
        obtain ⟨hb0, q, hq, hcc⟩ := oown rfl hcap0
        have ha := hat hk0
        have hfit : (o + n) * i.size + (vals xs).length ≤ q := by
          rw [hxl, ← Nat.add_mul]; exact Nat.le_trans (Nat.mul_le_mul_right _ (by omega)) hq
        obtain ⟨w', hrun, hrel⟩ := store_cells (P := P) h hrs (o' := .rows false i.size (rs.take (o + n) ++ xs ++ rs.drop (o + n + m))) (b := (L r).h.blk) (off := (o + n) * i.size) (n := q) ⟨hcap0, rfl⟩ (fun _ => Iff.rfl) (fun _ => Iff.rfl) hcc (vals xs) vals_one hfit
          (fun w' hk' hcc' hout hin => by
            refine ⟨osz, hsz, by simp; omega, fun _ _ => ⟨hb0, q, hq, hcc'⟩, fun j p hp => ?_⟩
            have hat' : ∀ i' g, (L r).h.at i' g = ⟨(L r).h.blk, i' * i.size + g, none⟩ := fun i' g => by simp [ILoc.at, hb0, osz]
            have hp' : (j < o + n ∨ o + n + m ≤ j) ∧ rs[j]? = some p ∨ (o + n ≤ j ∧ j < o + n + m) ∧ xs[j - (o + n)]? = some p := by
              rw [List.append_assoc] at hp
              rcases Nat.lt_or_ge j (o + n) with hj | hj
              · rw [List.getElem?_append_left (by simp; omega), List.getElem?_take, if_pos hj] at hp
                exact .inl ⟨.inl hj, hp⟩
              · rw [List.getElem?_append_right (by simp; omega)] at hp
                simp only [List.length_take, Nat.min_eq_left (show o + n ≤ rs.length by omega)] at hp
                rcases Nat.lt_or_ge j (o + n + m) with hj2 | hj2
                · rw [List.getElem?_append_left (by omega)] at hp
                  exact .inr ⟨⟨hj, hj2⟩, hp⟩
                · rw [List.getElem?_append_right (by omega), List.getElem?_drop, hxm, show o + n + m + (j - (o + n) - m) = j by omega] at hp
                  exact .inl ⟨.inr hj2, hp⟩
            rcases hp' with ⟨hj, hp'⟩ | ⟨hj, hp'⟩
            · refine ⟨(ocell j p hp').1, fun f x hf => ?_⟩
              have hfl : f < i.size := by have := (List.getElem?_eq_some_iff.1 hf).1; rw [(ocell j p hp').1] at this; exact this
              have h1 := (ocell j p hp').2 f x hf
              rw [hat'] at h1 ⊢
              rw [hout _ ?_, h1]
              rw [hxl]
              rcases hj with hj | hj
              · left
                have : (j + 1) * i.size ≤ (o + n) * i.size := Nat.mul_le_mul_right _ hj
                rw [Nat.add_mul] at this; omega
              · right
                have : (o + n + m) * i.size ≤ j * i.size := Nat.mul_le_mul_right _ hj
                rw [Nat.add_mul] at this; omega
            · refine ⟨hxs p (List.mem_of_getElem? hp'), fun f x hf => ?_⟩
              have := hin _ _ (flat_get hxs hp' hf)
              rw [hat']
              rw [← this]
              congr 2
              rw [← Nat.add_assoc, ← Nat.add_mul]
              congr 2; omega)
        have haa : a.add (n * i.size) = ⟨(L r).h.blk, (o + n) * i.size, none⟩ := by rw [ha, Addr.add_none _ _ rfl]; simp [ILoc.at, hb0, osz, Nat.add_mul]
        refine ⟨_, w', run_append_in (a := some a) ht hi hxv (by simpa using hxl) (by omega) (fun a0 ha0 => by cases ha0; rw [haa]; exact hrun) (fun ha0 => by cases ha0), L, _, _, _, Agree.refl _ _ _, by simp, ?_, hrel, hK⟩
        exact ⟨by simpa using hrN, .inr ⟨a, k, rfl, by omega, by simp, hok, hoc, hat⟩⟩

theorem reps_length {α : Type} (z : List α) : ∀ n, (reps n z).length = n * z.length
  | 0 => by simp [reps]
  | n + 1 => by simp [reps, reps_length z n, Nat.add_mul]; omega

theorem reps_get {α : Type} (z : List α) : ∀ n j, j < n * z.length → (reps n z)[j]? = z[j % z.length]?
  | 0, j, h => by simp at h
  | n + 1, j, h => by
    simp only [reps]
    rw [Nat.add_mul] at h
    rcases Nat.lt_or_ge j z.length with hj | hj
    · rw [List.getElem?_append_left hj, Nat.mod_eq_of_lt hj]
    · rw [List.getElem?_append_right hj, reps_get z n _ (by omega), Nat.mod_eq_sub_mod hj]

theorem madeCells_get {z : Array Value} {n j : Nat} (hz : 0 < z.size) (h : j < n) : (madeCells z n)[j]? = z[j % z.size]? := by
  have hm : j % z.size < z.size := Nat.mod_lt _ hz
  simp [madeCells, h, hm]

theorem chopK_spec {sz : Nat} : ∀ {n : Nat} {l : List FC} {k : List (List FC) → Prop}, chopK sz n l k → l.length = n * sz → ∃ rs, k rs ∧ rs.length = n ∧ (∀ r ∈ rs, r.length = sz) ∧ rs.flatten = l
  | 0, l, k, h, hl => ⟨[], h, rfl, by simp, by simp at hl; simp [hl]⟩
  | n + 1, l, k, h, hl => by
    simp only [chopK] at h
    obtain ⟨_, h⟩ := takeK_spec _ _ _ _ h
    rw [Nat.add_mul] at hl
    obtain ⟨rs, h1, h2, h3, h4⟩ := chopK_spec h (by simp; omega)
    simp only [List.drop_zero] at h1
    refine ⟨_, h1, by simp [h2], fun r hr => ?_, by simp [h4]⟩
    rcases List.mem_cons.1 hr with rfl | hr
    · simp; omega
    · exact h3 r hr

theorem new_rows (h : Rel B R w0 L H w) {sz n cap : Nat} {rs : List (List FC)} {c : Array Value} {e : TypeId} (hsz : 0 < sz) (hs : ∀ r ∈ rs, r.length = sz) (hl : rs.length = n) (hcap : n ≤ cap) (hc : c.size = cap * sz)
    (hg : ∀ (j : Nat) (v : Value), (vals rs)[j]? = some v → c[j]? = some v) {K : AV → List Nat → List PO → Prop} (hK : K (cv (.slc H.length 0 n none true)) [] (H ++ [.rows false sz rs])) :
    Left B R w0 H.length L K (.slice (some ⟨w.heap.size, 0, none⟩) n cap) (w.alloc (.cells c e)) := by
  have hR := rows_of_cells (w := w.alloc (.cells c e)) (heap_alloc_eq w _) hc (by simp) hsz (by omega) (Nat.le_refl _) hs hg true
  obtain ⟨h1, h2⟩ := alloc_sound h (.rows false sz rs) ⟨⟨w.heap.size, 0, cap, sz⟩, fun _ => ⟨0, 0, 0, 0⟩⟩ c e (fun b hb => hb.2) (fun b hb => hb) hR
  refine ⟨_, _, [], _, h1, by simp, ?_, h2, hK⟩
  refine ⟨by simp, .inr ⟨_, cap, rfl, hcap, by simp, ?_, ?_, fun _ => ?_⟩⟩ <;> rw [upd_self] <;> simp [ILoc.at]

theorem makeSlice_sound (h : Rel B R w0 L H w) {t : TypeId} {p q : AV} {v u : Value} (hp : VA H.length L p v) (hq : VA H.length L q u) {K : AV → List Nat → List PO → Prop} (hs : makeSliceA P H t p q fun v H' => K v [] H') :
    ∃ r w', (Instr.makeSlice t v u).run P w = .ok r w' ∧ Left B R w0 H.length L K r w' := by
  unfold makeSliceA at hs
  split at hs <;> try exact hs.elim
  rename_i kl l kc c
  obtain rfl := hp
  obtain rfl := hq
  split at hs <;> try exact hs.elim
  rename_i e he
  split at hs <;> try exact hs.elim
  rename_i i z hi hz
  simp only [cond_eq_ite, Bool.and_eq_true] at hs
  split at hs <;> try exact hs.elim
  rename_i hc
  have hsz : 0 < i.size := by simpa [Nat.blt_eq] using hc.1
  have hzl := lenIs_spec _ _ hc.2
  split at hs
  rotate_left
  · split at hs <;> try exact hs.elim
    rename_i e2 he2 _
    split at hs <;> try exact hs.elim
    rename_i hc2
    have hi1 : i.size = 1 := Nat.eq_of_beq_eq_true hc2.1
    have he0 : 0 < szOf P e2 := by simpa [Nat.blt_eq] using hc2.2
    obtain ⟨h0, h1, h2, h3, hK⟩ := hs
    have hK := snocK_spec hK
    obtain ⟨zv, hzv, hzr⟩ := zero_spec (N := H.length) (L := L) hi hz
    obtain rfl : zv = .slice none 0 0 := hzr
    refine ⟨_, _, run_make w t e i _ (elemT_spec he) hi hzv kl kc l c h0 h1 h2 h3, ?_⟩
    have hlc : l.toNat ≤ c.toNat := by omega
    have hrep : ∀ (j : Nat) (p : ILoc × List (List FC)), (List.replicate l.toNat (some ((⟨0, 0, 0, szOf P e2⟩ : ILoc), ([] : List (List FC)))))[j]? = some (some p) → p = (⟨0, 0, 0, szOf P e2⟩, []) ∧ j < l.toNat := fun j p hj => by
      have := List.mem_of_getElem? hj
      have h9 := (List.getElem?_eq_some_iff.1 hj).1
      exact ⟨Option.some.inj (List.eq_of_mem_replicate this), by simpa using h9⟩
    obtain ⟨a1, a2⟩ := alloc_sound (fr := (0, 0)) h (.rows3 true (szOf P e2) (List.replicate l.toNat (some (⟨0, 0, 0, szOf P e2⟩, [])))) ⟨⟨w.heap.size, 0, c.toNat, 1⟩, fun _ => ⟨0, 0, 0, 0⟩⟩ (madeCells (Value.slice none 0 0).cells (c.toNat * i.size)) e
      (fun b hb => by
        rcases hb with hb | ⟨j, p, hj, hc, _⟩
        · exact hb.2
        · rw [(hrep j p hj).1] at hc
          exact absurd rfl hc) (fun b hb => hb) (by
        refine ⟨rfl, by simpa using hlc, fun _ => by
          exact ⟨rfl, c.toNat * i.size, by rw [hi1, Nat.mul_one]; exact Nat.le_refl _, _, _, _, heap_alloc_eq w _, size_madeCells _ _, fun i _ h9 => absurd h9.2 (Nat.not_lt_zero _)⟩, fun j p hj => ?_⟩
        obtain ⟨rfl, hjl⟩ := hrep j p hj
        refine ⟨⟨rfl, he0, Nat.le_refl _, fun _ hc => absurd rfl hc, fun i r hi => by simp at hi⟩, ⟨.slice none 0 0, ?_, .inl ⟨rfl, rfl, rfl, by simp⟩⟩, fun hc => absurd rfl hc⟩
        have hm := madeCells_get (z := (Value.slice none 0 0).cells) (n := c.toNat * i.size) (j := j) (by decide) (by rw [hi1]; omega)
        have hcz : (Value.slice none 0 0).cells.size = 1 := rfl
        rw [hcz, Nat.mod_one] at hm
        simp only [World.cell?, ILoc.at, Nat.zero_add, Nat.mul_one, Nat.add_zero, heap_alloc_eq]
        rw [hm]
        rfl)
    refine ⟨_, _, [], _, a1, by simp, ?_, a2, hK⟩
    refine ⟨by simp, .inr ⟨_, c.toNat, rfl, hlc, by simp, ?_, ?_, fun _ => ?_⟩⟩ <;> rw [upd_self] <;> simp [ILoc.at]
  rename_i zf hzf
  obtain ⟨h0, h1, h2, h3, hK⟩ := hs
  have hK := snocK_spec hK
  obtain ⟨zv, hzv, hzr⟩ := zero_spec (N := H.length) (L := L) hi hz
  have hzc := VP.cells hzr
  rw [fcs_spec hzf] at hzc hzl
  have hzc := VCs_f hzc
  have hzs : zv.cells.size = i.size := by rw [← hzl]; simpa using congrArg List.length hzc
  refine ⟨_, _, run_make w t e i zv (elemT_spec he) hi hzv kl kc l c h0 h1 h2 h3, new_rows h hsz (fun r hr => ?_) (by simp) (by omega) (size_madeCells _ _) (fun j x hj => ?_) hK⟩
  · rw [List.eq_of_mem_replicate hr]; simpa using hzl
  · have hall : ∀ r ∈ List.replicate l.toNat zf, r.length = i.size := fun r hr => by rw [List.eq_of_mem_replicate hr]; simpa using hzl
    have hlen := vals_length hall
    have hjl : j < l.toNat * i.size := by have := (List.getElem?_eq_some_iff.1 hj).1; rw [hlen] at this; simpa using this
    obtain ⟨a, f, r, y, rfl, hf, ha, hr, rfl⟩ := vals_get hall hsz hj
    have hlt : a * i.size + f < c.toNat * i.size := Nat.lt_of_lt_of_le hjl (Nat.mul_le_mul_right _ (by omega))
    rw [madeCells_get (by omega) hlt, hzs, Nat.mul_comm, Nat.mul_add_mod, Nat.mod_eq_of_lt hf]
    have hrz : r = zf := List.eq_of_mem_replicate (List.mem_of_getElem? ha)
    subst hrz
    have := congrArg (·[f]?) hzc
    simp only [List.getElem?_map, hr, Array.getElem?_toList] at this
    exact this

theorem buildSlice_sound (h : Rel B R w0 L H w) {t : TypeId} {n : Nat} {parts : List (Nat × AV)} {vparts : Array (Nat × Value)} (h1 : parts.map (·.1) = vparts.toList.map (·.1)) (h2 : VAs H.length L (parts.map (·.2)) (vparts.toList.map (·.2)))
    {K : AV → List Nat → List PO → Prop} (hs : buildSliceA P H t n parts fun v H' => K v [] H') : ∃ r w', (Instr.buildSlice t n vparts).run P w = .ok r w' ∧ Left B R w0 H.length L K r w' := by
  unfold buildSliceA at hs
  split at hs <;> try exact hs.elim
  rename_i e he
  split at hs <;> try exact hs.elim
  rename_i z hz
  simp only [cond_eq_ite, Bool.and_eq_true] at hs
  split at hs <;> try exact hs.elim
  rename_i hc
  obtain ⟨⟨⟨hinfo, hpos⟩, hmax⟩, hzl⟩ := hc
  have hpos : 0 < szOf P e := by simpa [Nat.blt_eq] using hpos
  have hmax : n * szOf P e ≤ 16777216 := Nat.le_of_ble_eq_true hmax
  have hzl := lenIs_spec _ _ hzl
  obtain ⟨zv, hzr, hzv⟩ := zval_sound (N := H.length) (L := L) (w := w) hz
  have hzc := VP.cells hzv
  have hzs : zv.cells.size = szOf P e := by rw [← hzl, hzc.length]; simp
  have hbase : VCs H.length L (reps n (cellsOf z)) (madeCells zv.cells (n * szOf P e)).toList := by
    refine VCs.of_get (by rw [reps_length, hzl]; simp [size_madeCells]) fun i x v hx hv => ?_
    have hi : i < n * szOf P e := by have := (List.getElem?_eq_some_iff.1 hx).1; rwa [reps_length, hzl] at this
    rw [reps_get _ _ _ (by rw [hzl]; exact hi), hzl] at hx
    rw [Array.getElem?_toList, madeCells_get (by omega) hi, hzs] at hv
    obtain ⟨v', hv', hvr⟩ := hzc.get hx
    rw [Array.getElem?_toList, hv] at hv'
    cases hv'
    exact hvr
  obtain ⟨cs, vcs, hf, hr, hK⟩ := fill_sound (N := H.length) (L := L) _ parts vparts.toList _ (madeCells zv.cells (n * szOf P e)) h1 h2 hbase hs
  split at hK <;> try exact hK.elim
  rename_i l hl
  rw [fcs_spec hl] at hr
  have hvl := VCs_f hr
  have hfl : vcs.size = n * szOf P e := by
    have hfold : ∀ (off : Nat) (zs : List (Value × Nat)) (c : Array Value), (zs.foldl (fun cs (x : Value × Nat) => cs.setIfInBounds (off + x.2) x.1) c).size = c.size := by
      intro off zs
      induction zs with
      | nil => intro c; rfl
      | cons a zs ih2 => intro c; rw [List.foldl_cons, ih2]; simp
    have : ∀ (place : Nat → Option (Nat × Nat)) (ps : List (Nat × Value)) (c c' : Array Value), Instr.fill place c ps = some c' → c'.size = c.size := by
      intro place ps
      induction ps with
      | nil => intro c c' hh; simp [Instr.fill] at hh; rw [hh]
      | cons q ps ih =>
        intro c c' hh
        obtain ⟨i, v⟩ := q
        simp only [Instr.fill] at hh
        split at hh
        · cases hh
        · split at hh
          · cases hh
          · rw [ih _ _ hh]
            rw [← Array.foldl_toList]
            exact hfold _ _ _
    rw [this _ _ _ _ hf, size_madeCells]
  have hll : l.length = n * szOf P e := by rw [← hfl]; simpa using (congrArg List.length hvl).symm
  obtain ⟨rs, hK, hrl, hrs, hflat⟩ := chopK_spec hK hll
  have hK := snocK_spec hK
  refine ⟨.slice (some ⟨w.heap.size, 0, none⟩) n n, w.alloc (.cells vcs e), ?_, new_rows h hpos hrs hrl (Nat.le_refl _) hfl (fun j v hj => ?_) hK⟩
  · have h24 : ¬ (n * szOf P e > 2 ^ 24) := by omega
    simp only [Instr.buildSlice, Sem.run_bind, run_underlying_some (elemT_spec he), Result.andThen_ok, run_sizeOf_some hinfo, Sem.run_ite, if_neg h24]
    by_cases hn : n * szOf P e = 0
    · have hz0 : (madeCells #[] (n * szOf P e)) = madeCells zv.cells (n * szOf P e) := by rw [hn]; simp [madeCells]
      simp only [if_pos hn, Sem.run_pure, Result.andThen_ok]
      have hf' : Instr.fill (fun i => some (i * szOf P e, szOf P e)) ((Array.range (n * szOf P e)).map ((#[] : Array Value)[· % (#[] : Array Value).size]!)) vparts.toList = some vcs := by
        rw [← hf, ← hz0]; rfl
      simp only [hf']
      rfl
    · simp only [if_neg hn, hzr, Result.andThen_ok, Sem.run_pure]
      have hf' : Instr.fill (fun i => some (i * szOf P e, szOf P e)) ((Array.range (n * szOf P e)).map (zv.cells[· % zv.cells.size]!)) vparts.toList = some vcs := hf
      simp only [hf']
      rfl
  · have : vals rs = vcs.toList := by rw [hvl, vals, hflat]
    rw [this] at hj
    simpa using hj

theorem capsOf_sound : ∀ {xs : List AV} {l : List Nat} {vs : List Value}, capsOf xs = some l → VAs N L xs vs → (∀ r ∈ l, r < N) ∧ vs = l.map fun r => Value.pointer (some ((L r).h.at 0 0))
  | [], l, vs, h, hv => by simp [capsOf] at h; subst h; simp [VAs] at hv; simp [hv]
  | x :: xs, l, vs, h, ⟨y, ys, h1, h2, h3⟩ => by
    unfold capsOf at h
    split at h
    · rename_i hx; cases hx
    · rename_i r xs' hx
      simp only [List.cons.injEq] at hx
      obtain ⟨rfl, rfl⟩ := hx
      split at h <;> simp at h
      rename_i l' hl'
      subst h
      obtain ⟨k1, k2⟩ := capsOf_sound hl' h3
      obtain ⟨h4, rfl⟩ := h2
      refine ⟨fun q hq => ?_, by rw [h1, k2]; rfl⟩
      rcases List.mem_cons.1 hq with rfl | hq
      · exact h4
      · exact k1 q hq
    · cases h

end
end Go.Mac
end

/- The machine of abstract values, part 4c: slices of slices are what they are said to be. -/
section
namespace Go.Mac
open Go

section
variable {B R : Nat → Prop} {w0 : World} {N : Nat} {L : Nat → Loc} {H : List PO} {P : Program} {w : World}

theorem Hdr.full {h : ILoc} {n : Nat} {nn : Bool} {v : Value} (hh : Hdr h 0 n none nn v) : Hdr h 0 n none false v := by
  rcases hh with ⟨_, h2, h3, h4⟩ | h
  · exact .inl ⟨rfl, h2, h3, h4⟩
  · exact .inr h

theorem absorb_spec (h : Rel B R w0 L H w) {sz : Nat} (hsz : 0 < sz) : ∀ (cs : List CV) (vs : List Value) (G : List PO) {k : List Nat → List PO → List (List (List FC)) → Prop},
    VCs H.length L cs vs → absorbK sz G cs k → (∀ (j : Nat) (o : PO), G[j]? = some o → o = .gone ∨ H[j]? = some o) → G.length = H.length →
    ∃ M G' rss, ∃ inn : Nat → ILoc, k M G' rss ∧ G'.length = H.length ∧ (∀ (j : Nat) (o : PO), G'[j]? = some o → o = .gone ∨ j ∉ M ∧ G[j]? = some o) ∧ rss.length = cs.length ∧
      ∀ (i : Nat) (rs : List (List FC)), rss[i]? = some rs → RowsAt w true sz rs (inn i) ∧ (∃ v, vs[i]? = some v ∧ Hdr (inn i) 0 rs.length none false v) ∧ ((inn i).cap ≠ 0 → ∃ j o, j ∈ M ∧ H[j]? = some o ∧ Own o (L j) (inn i).blk)
  | [], vs, G, k, hv, hk, hG, hl => ⟨[], G, [], fun _ => ⟨0, 0, 0, 0⟩, hk, hl, fun j o ho => .inr ⟨by simp, ho⟩, rfl, fun i rs hi => by simp at hi⟩
  | .nilslc :: cs, vs, G, k, ⟨v, us, hvs, hv, hus⟩, hk, hG, hl => by
    subst hvs
    obtain rfl : v = .slice none 0 0 := hv
    obtain ⟨M, G', rss, inn, k1, k2, k3, k4, k5⟩ := absorb_spec h hsz cs us G hus hk hG hl
    refine ⟨M, G', _, fun i => match i with | 0 => ⟨0, 0, 0, sz⟩ | i + 1 => inn i, k1, k2, k3, by simp [k4], fun i rs hi => ?_⟩
    cases i with
    | zero =>
      simp at hi; subst hi
      exact ⟨⟨rfl, hsz, Nat.le_refl _, fun _ hc => absurd rfl hc, fun i r hi => by simp at hi⟩, ⟨_, rfl, .inl ⟨rfl, rfl, rfl, fun c' hc' => by cases hc'⟩⟩, fun hc => absurd rfl hc⟩
    | succ i => exact k5 i rs (by simpa using hi)
  | .slc r 0 n none nn :: cs, vs, G, k, ⟨v, us, hvs, hv, hus⟩, hk, hG, hl => by
    subst hvs
    simp only [absorbK, nth_eq] at hk
    split at hk <;> try exact hk.elim
    rename_i s rs hrs
    simp only [cond_eq_ite] at hk
    split at hk <;> try exact hk.elim
    rename_i hs
    obtain rfl := Nat.eq_of_beq_eq_true hs
    obtain ⟨hn, hk⟩ := hk
    subst hn
    rw [setK_eq] at hk
    have hrH : H[r]? = some (.rows false s rs) := by
      rcases hG r _ hrs with e | e
      · cases e
      · exact e
    have hlt := (List.getElem?_eq_some_iff.1 hrH).1
    obtain ⟨hrN, hh⟩ := hv
    obtain ⟨M, G', rss, inn, k1, k2, k3, k4, k5⟩ := absorb_spec h hsz cs us (G.set r .gone) hus hk (fun j o hj => by
      by_cases hjr : j = r
      · subst hjr
        rw [List.getElem?_set_self (by omega)] at hj
        exact .inl (Option.some.inj hj).symm
      · rw [List.getElem?_set_ne (Ne.symm hjr)] at hj
        exact hG j o hj) (by simpa using hl)
    refine ⟨r :: M, G', rs :: rss, fun i => match i with | 0 => (L r).h | i + 1 => inn i, k1, k2, fun j o hj => ?_, by simp [k4], fun i q hi => ?_⟩
    · rcases k3 j o hj with e | ⟨e1, e2⟩
      · exact .inl e
      · by_cases hjr : j = r
        · subst hjr
          rw [List.getElem?_set_self (by omega)] at e2
          exact .inl (Option.some.inj e2).symm
        · rw [List.getElem?_set_ne (Ne.symm hjr)] at e2
          exact .inr ⟨by simp [hjr, e1], e2⟩
    · cases i with
      | zero =>
        simp at hi; subst hi
        exact ⟨h.obj r _ hrH, ⟨_, rfl, hh.full⟩, fun hc => ⟨r, _, by simp, hrH, hc, rfl⟩⟩
      | succ i =>
        obtain ⟨g1, g2, g3⟩ := k5 i q (by simpa using hi)
        refine ⟨g1, by simpa using g2, fun hc => ?_⟩
        obtain ⟨j, o, hj, e⟩ := g3 hc
        exact ⟨j, o, by simp [hj], e⟩

theorem fill_size : ∀ (place : Nat → Option (Nat × Nat)) (ps : List (Nat × Value)) (c c' : Array Value), Instr.fill place c ps = some c' → c'.size = c.size := by
  have hfold : ∀ (off : Nat) (zs : List (Value × Nat)) (c : Array Value), (zs.foldl (fun cs (x : Value × Nat) => cs.setIfInBounds (off + x.2) x.1) c).size = c.size := by
    intro off zs
    induction zs with
    | nil => intro c; rfl
    | cons a zs ih2 => intro c; rw [List.foldl_cons, ih2]; simp
  intro place ps
  induction ps with
  | nil => intro c c' hh; simp [Instr.fill] at hh; rw [hh]
  | cons q ps ih =>
    intro c c' hh
    obtain ⟨i, v⟩ := q
    simp only [Instr.fill] at hh
    split at hh
    · cases hh
    · split at hh
      · cases hh
      · rw [ih _ _ hh]
        rw [← Array.foldl_toList]
        exact hfold _ _ _

def rOf : CV → Nat
  | .slc r _ _ _ _ => r
  | _ => 0

theorem roK_spec {H : List PO} {sz : Nat} : ∀ (cs : List CV) {k : List (List (List FC)) → Prop}, roK H sz cs k → ∃ rss, k rss ∧ rss.length = cs.length ∧ ∀ (i : Nat) (rs : List (List FC)), rss[i]? = some rs → ∃ r nn, cs[i]? = some (.slc r 0 rs.length none nn) ∧ H[r]? = some (.rows true sz rs)
  | [], k, h => ⟨[], h, rfl, fun i rs hi => by simp at hi⟩
  | c :: cs, k, h => by
    unfold roK at h
    split at h
    · rename_i heq; cases heq
    · rename_i r m nn cs' heq
      cases heq
      rw [nth_eq] at h
      split at h <;> try exact h.elim
      rename_i s rs hrs
      simp only [cond_eq_ite] at h
      split at h <;> try exact h.elim
      rename_i hb
      obtain rfl := Nat.eq_of_beq_eq_true hb
      obtain ⟨rfl, h⟩ := h
      obtain ⟨rss, h1, h2, h3⟩ := roK_spec cs h
      refine ⟨rs :: rss, h1, by simp [h2], fun i q hi => ?_⟩
      cases i with
      | zero =>
        simp at hi
        subst hi
        exact ⟨r, nn, rfl, hrs⟩
      | succ i => simpa using h3 i q (by simpa using hi)
    · exact h.elim

theorem build2_sound (h : Rel B R w0 L H w) {t : TypeId} {sz n : Nat} {parts : List (Nat × AV)} {vparts : Array (Nat × Value)} (_hsz : slc2 P t = some sz) (h1 : parts.map (·.1) = vparts.toList.map (·.1)) (h2 : VAs H.length L (parts.map (·.2)) (vparts.toList.map (·.2)))
    {K : AV → List Nat → List PO → Prop} (hs : build2A P H t sz n parts K) : ∃ r w', (Instr.buildSlice t n vparts).run P w = .ok r w' ∧ Left B R w0 H.length L K r w' := by
  unfold build2A at hs
  split at hs <;> try exact hs.elim
  rename_i e he
  split at hs <;> try exact hs.elim
  rename_i z hz
  simp only [cond_eq_ite, Bool.and_eq_true] at hs
  split at hs <;> try exact hs.elim
  rename_i hc
  obtain ⟨⟨⟨⟨hinfo, hone⟩, hmax⟩, hzl⟩, hsz⟩ := hc
  have hsz : 0 < sz := by simpa [Nat.blt_eq] using hsz
  have hone : szOf P e = 1 := Nat.eq_of_beq_eq_true hone
  rw [← hone] at hzl
  have hpos : 0 < szOf P e := by omega
  have hmax : n * szOf P e ≤ 16777216 := by rw [hone]; simpa using Nat.le_of_ble_eq_true hmax
  have hzl := lenIs_spec _ _ hzl
  obtain ⟨zv, hzr, hzv⟩ := zval_sound (N := H.length) (L := L) (w := w) hz
  have hzc := VP.cells hzv
  have hzs : zv.cells.size = szOf P e := by rw [← hzl, hzc.length]; simp
  have hbase : VCs H.length L (reps n (cellsOf z)) (madeCells zv.cells (n * szOf P e)).toList := by
    refine VCs.of_get (by rw [reps_length, hzl]; simp [size_madeCells]) fun i x v hx hv => ?_
    have hi : i < n * szOf P e := by have := (List.getElem?_eq_some_iff.1 hx).1; rwa [reps_length, hzl] at this
    rw [reps_get _ _ _ (by rw [hzl]; exact hi), hzl] at hx
    rw [Array.getElem?_toList, madeCells_get (by omega) hi, hzs] at hv
    obtain ⟨v', hv', hvr⟩ := hzc.get hx
    rw [Array.getElem?_toList, hv] at hv'
    cases hv'
    exact hvr
  obtain ⟨cs, vcs, hf, hr, hK⟩ := fill_sound (N := H.length) (L := L) _ parts vparts.toList _ (madeCells zv.cells (n * szOf P e)) h1 h2 hbase hs
  have hfl : vcs.size = n := by rw [fill_size _ _ _ _ hf, size_madeCells, hone]; simp
  have hcl : cs.length = n := by rw [hr.length]; simpa using hfl
  have hrun : (Instr.buildSlice t n vparts).run P w = .ok (.slice (some ⟨w.heap.size, 0, none⟩) n n) (w.alloc (.cells vcs e)) := by
    have h24 : ¬ (n * szOf P e > 2 ^ 24) := by omega
    simp only [Instr.buildSlice, Sem.run_bind, run_underlying_some (elemT_spec he), Result.andThen_ok, run_sizeOf_some hinfo, Sem.run_ite, if_neg h24]
    by_cases hn : n * szOf P e = 0
    · have hz0 : (madeCells #[] (n * szOf P e)) = madeCells zv.cells (n * szOf P e) := by rw [hn]; simp [madeCells]
      simp only [if_pos hn, Sem.run_pure, Result.andThen_ok]
      have hf' : Instr.fill (fun i => some (i * szOf P e, szOf P e)) ((Array.range (n * szOf P e)).map ((#[] : Array Value)[· % (#[] : Array Value).size]!)) vparts.toList = some vcs := by
        rw [← hf, ← hz0]; rfl
      simp only [hf']
      rfl
    · simp only [if_neg hn, hzr, Result.andThen_ok, Sem.run_pure]
      have hf' : Instr.fill (fun i => some (i * szOf P e, szOf P e)) ((Array.range (n * szOf P e)).map (zv.cells[· % zv.cells.size]!)) vparts.toList = some vcs := hf
      simp only [hf']
      rfl
  split at hK
  · -- one of what is only read
    clear hs
    unfold oneRoK at hK
    obtain ⟨rss, hK, hrl, hrs⟩ := roK_spec cs hK
    have hK := snocK_spec hK
    have hag := upd_agree L ⟨⟨w.heap.size, 0, n, 1⟩, fun i => (L (rOf (cs.getD i .junk))).h⟩ H.length []
    refine ⟨.slice (some ⟨w.heap.size, 0, none⟩) n n, w.alloc (.cells vcs e), hrun, upd L H.length ⟨⟨w.heap.size, 0, n, 1⟩, fun i => (L (rOf (cs.getD i .junk))).h⟩, _, [], _, hag, by simp, ?_, ?_, hK⟩
    · refine ⟨by simp, .inr ⟨_, n, rfl, Nat.le_refl _, by simp, ?_, ?_, fun _ => ?_⟩⟩ <;> rw [upd_self] <;> simp [ILoc.at]
    · refine h.put (M := []) H.length (.rows2m sz rss) (by simp) (by simp) (fun j hj o1 ho1 => ?_) hag (fun j hj => upd_ne hj) ((Bel.refl B w).alloc h.size _)
        (fun b hb => .inl (heap_alloc_lt _ _ _ hb)) (fun b hb => ?_) (fun b hb => ?_) ?_
      · rcases Nat.lt_or_gt_of_ne hj with hl | hg
        · rw [List.getElem?_append_left hl] at ho1
          exact ⟨o1, ho1, (killO_nil o1).symm⟩
        · rw [List.getElem?_eq_none (by simp; omega)] at ho1
          cases ho1
      · rw [upd_self] at hb
        obtain rfl : b = w.heap.size := hb.2
        exact ⟨fun hb => Nat.lt_irrefl _ (h.size _ hb), by simp, .inl (Nat.le_refl _)⟩
      · rw [upd_self] at hb
        obtain ⟨i, hi, hc, rfl⟩ := hb
        obtain ⟨r, nn, hci, hr⟩ := hrs i rss[i] (List.getElem?_eq_getElem hi)
        have e0 : rOf (cs.getD i .junk) = r := by rw [List.getD_eq_getElem?_getD, hci]; rfl
        dsimp only at hc ⊢
        rw [e0] at hc ⊢
        exact h.ro r _ _ hr ⟨hc, rfl⟩
      · rw [upd_self]
        refine ⟨rfl, by show rss.length ≤ n; omega, fun _ => ⟨rfl, n, Nat.le_refl _, vcs, e, _, heap_alloc_eq _ _, hfl, by simp⟩, fun i rs hi => ?_⟩
        obtain ⟨r, nn, hci, hrr⟩ := hrs i rs hi
        have e0 : rOf (cs.getD i .junk) = r := by rw [List.getD_eq_getElem?_getD, hci]; rfl
        dsimp only
        rw [e0]
        have hOr := h.obj r _ hrr
        obtain ⟨v, hv1, hrN, hv2⟩ := hr.get hci
        have hv2' : Hdr (L r).h 0 rs.length none false v := by
          rcases hv2 with ⟨_, q1, q2, q3⟩ | q
          · exact .inl ⟨rfl, q1, q2, q3⟩
          · exact .inr q
        refine ⟨RowsAt.mono (fun hc => heap_alloc_lt _ _ _ (h.size _ (h.sub _ (h.ro r _ _ hrr ⟨hc, rfl⟩)))) hOr, v, ?_, hv2'⟩
        have h0 : vcs[i]? = some v := by rw [← Array.getElem?_toList]; exact hv1
        simp only [World.cell?, ILoc.at, heap_alloc_eq]
        simpa using h0
  obtain ⟨M, G', rss, inn, k1, k2, k3, k4, k5⟩ := absorb_spec h hsz cs vcs.toList H hr hK (fun j o hj => .inr hj) rfl
  rw [killHK_eq] at k1
  have k1 := snocK_spec k1
  have hlen : (G'.map (killO M)).length = H.length := by simpa using k2
  rw [hlen] at k1
  have hblk : ∀ (i : Nat) (rs : List (List FC)), rss[i]? = some rs → (inn i).cap ≠ 0 → (inn i).blk < w.heap.size := fun i rs hi hc => by
    obtain ⟨_, _, g3⟩ := k5 i rs hi
    obtain ⟨j, o, _, ho, hb⟩ := g3 hc
    exact (h.own j o _ ho hb).2.1
  have hrel := h.seize (M := M) (L' := upd L H.length ⟨⟨w.heap.size, 0, n, 1⟩, inn⟩) (H' := G'.map (killO M) ++ [.rows2 false sz rss]) (w' := w.alloc (.cells vcs e)) H.length M (.rows2 false sz rss)
    (by simp [k2]) (by rw [List.getElem?_append_right (by omega), hlen]; simp) (fun j hj o ho => by
      rcases Nat.lt_or_gt_of_ne hj with hl | hg
      · rw [List.getElem?_append_left (by omega), List.getElem?_map, Option.map_eq_some_iff] at ho
        obtain ⟨o1, ho1, rfl⟩ := ho
        rcases k3 j o1 ho1 with rfl | ⟨e1, e2⟩
        · exact .inl rfl
        · exact .inr ⟨e1, o1, e2, rfl⟩
      · rw [List.getElem?_eq_none (by simp; omega)] at ho
        cases ho) (fun i hi _ => upd_ne (by omega)) (fun j hj => upd_ne hj) ((Bel.refl B w).alloc h.size _) (fun b hb => .inl (heap_alloc_lt _ _ _ hb)) (fun b hb => by
      rw [upd_self] at hb
      rcases hb with ⟨_, rfl⟩ | ⟨i, hi, hc, rfl⟩
      · exact ⟨fun hb => Nat.lt_irrefl _ (h.size _ hb), by simp, .inl (Nat.le_refl _)⟩
      · obtain ⟨_, _, g3⟩ := k5 i _ (List.getElem?_eq_getElem hi)
        obtain ⟨j, o, hj, ho, hb⟩ := g3 hc
        obtain ⟨g4, g5, _⟩ := h.own j o _ ho hb
        exact ⟨g4, by simp; omega, .inr ⟨j, o, .inr hj, ho, hb⟩⟩) (fun b hb => hb.elim) (by
      rw [upd_self]
      refine ⟨rfl, by show rss.length ≤ n; omega, fun _ _ => ⟨rfl, n, Nat.le_refl _, vcs, e, _, heap_alloc_eq _ _, hfl, by simp⟩, fun i rs hi => ?_, fun _ _ i hi hc => ?_⟩
      · obtain ⟨g1, ⟨v, g2, g3⟩, _⟩ := k5 i rs hi
        refine ⟨g1.mono fun hc => heap_alloc_lt _ _ _ (hblk i rs hi hc), v, ?_, g3⟩
        simp only [World.cell?, ILoc.at, heap_alloc_eq]
        simpa using g2
      · have := hblk i _ (List.getElem?_eq_getElem hi) hc
        show (inn i).blk ≠ w.heap.size
        omega)
  refine ⟨.slice (some ⟨w.heap.size, 0, none⟩) n n, w.alloc (.cells vcs e), hrun, _, _, M, _, fun i hi _ => upd_ne (by omega), by simp [k2], ?_, hrel, k1⟩
  refine ⟨by simp [k2], .inr ⟨_, n, rfl, Nat.le_refl _, by simp, ?_, ?_, fun _ => ?_⟩⟩ <;> dsimp only <;> rw [upd_self] <;> simp [ILoc.at]

/-- The headers that stand in a row of slices. -/
def outs (w : World) (h : ILoc) (n : Nat) : List Value := (List.range n).map fun j => (w.cell? (h.at j 0)).getD undef

theorem outs_length {h : ILoc} {n : Nat} : (outs w h n).length = n := by simp [outs]

theorem outs_get {N : Nat} {L : Nat → Loc} {ro : Bool} {sz : Nat} {rss : List (List (List FC))} {l : Loc} (ho : OR N L w (.rows2 ro sz rss) l) {j : Nat} {z : Value} (hz : (outs w l.h rss.length)[j]? = some z) :
    w.cell? (l.h.at j 0) = some z ∧ ∃ rs, rss[j]? = some rs ∧ Hdr (l.inn j) 0 rs.length none false z := by
  have hj : j < rss.length := by have := (List.getElem?_eq_some_iff.1 hz).1; simpa [outs_length] using this
  obtain ⟨_, v, hv, hh⟩ := ho.2.2.2.1 j _ (List.getElem?_eq_getElem hj)
  simp only [outs, List.getElem?_map, List.getElem?_range hj, Option.map_some, hv, Option.getD_some, Option.some.injEq] at hz
  subst hz
  exact ⟨hv, _, List.getElem?_eq_getElem hj, hh⟩

theorem Hdr.one {h : ILoc} {o n : Nat} {c : Option Nat} {nn : Bool} {v : Value} (hh : Hdr h o n c nn v) : OneCell v = true := by
  rcases hh with ⟨_, _, rfl, _⟩ | ⟨_, _, rfl, _⟩ <;> rfl

theorem outs_hdr {N : Nat} {L : Nat → Loc} {ro : Bool} {sz : Nat} {rss : List (List (List FC))} {l : Loc} (ho : OR N L w (.rows2 ro sz rss) l) {nn : Bool} {v : Value} (hh : Hdr l.h 0 rss.length none nn v) :
    (rss.length = 0 ∧ v = .slice none 0 0) ∨ ∃ b c, v = .slice (some b) rss.length c ∧ ∀ (j : Nat) (z : Value), (outs w l.h rss.length)[j]? = some z → w.cell? (b.add j) = some z := by
  rcases hh with ⟨_, h0, hv, _⟩ | ⟨a, k, hv, hnk, _, _, _, hat⟩
  · exact .inl ⟨h0, hv⟩
  · refine .inr ⟨a, k, hv, fun j z hz => ?_⟩
    have hj : j < rss.length := by have := (List.getElem?_eq_some_iff.1 hz).1; simpa [outs_length] using this
    have := (outs_get ho hz).1
    rw [hat (by omega), Addr.add_none _ _ rfl]
    simpa [ILoc.at, ho.1] using this

/-- One of the slices is held elsewhere. -/
theorem take3 (h : Rel B R w0 L H w) {r sz i : Nat} {es : List (Option (ILoc × List (List FC)))} {l : ILoc} {rs : List (List FC)} (hr : H[r]? = some (.rows3 true sz es)) (hi : es[i]? = some (some (l, rs))) :
    Agree H.length [] L (upd L H.length ⟨l, fun _ => l⟩) ∧ Rel B R w0 (upd L H.length ⟨l, fun _ => l⟩) (H.set r (.rows3 true sz (es.set i none)) ++ [.rows false sz rs]) w := by
  have hrl := (List.getElem?_eq_some_iff.1 hr).1
  have hil := (List.getElem?_eq_some_iff.1 hi).1
  obtain ⟨c1, c2, c3, c4⟩ := h.obj r _ hr
  obtain ⟨d1, d2, d3⟩ := c4 i _ hi
  have hag := upd_agree L ⟨l, fun _ => l⟩ H.length []
  have hget : ∀ (j : Nat) (p : ILoc × List (List FC)), (es.set i none)[j]? = some (some p) → j ≠ i ∧ es[j]? = some (some p) := fun j p hj => by
    by_cases e : j = i
    · subst e
      rw [List.getElem?_set_self hil] at hj
      cases hj
    · rw [List.getElem?_set_ne (Ne.symm e)] at hj
      exact ⟨e, hj⟩
  -- which object it was
  have hobj : ∀ (j : Nat) (o : PO), (H.set r (.rows3 true sz (es.set i none)) ++ [.rows false sz rs])[j]? = some o →
      (j = H.length ∧ o = .rows false sz rs) ∨ (j = r ∧ o = .rows3 true sz (es.set i none)) ∨ (j < H.length ∧ j ≠ r ∧ H[j]? = some o) := fun j o ho => by
    rcases Nat.lt_or_ge j H.length with hj | hj
    · rw [List.getElem?_append_left (by simpa using hj)] at ho
      by_cases e : j = r
      · subst e
        rw [List.getElem?_set_self hrl] at ho
        exact .inr (.inl ⟨rfl, (Option.some.inj ho).symm⟩)
      · rw [List.getElem?_set_ne (Ne.symm e)] at ho
        exact .inr (.inr ⟨hj, e, ho⟩)
    · rw [List.getElem?_append_right (by simpa using hj), List.length_set] at ho
      by_cases e : j = H.length
      · subst e
        rw [Nat.sub_self] at ho
        exact .inl ⟨rfl, (Option.some.inj ho).symm⟩
      · rw [List.getElem?_eq_none (by simp; omega)] at ho
        cases ho
  -- whose a block was
  have hown : ∀ (j : Nat) (o : PO) (b : Nat), (H.set r (.rows3 true sz (es.set i none)) ++ [.rows false sz rs])[j]? = some o → Own o (upd L H.length ⟨l, fun _ => l⟩ j) b →
      ∃ k o', H[k]? = some o' ∧ Own o' (L k) b ∧ ((j = H.length ∧ k = r ∧ l.cap ≠ 0 ∧ b = l.blk) ∨ (j = r ∧ k = r ∧ (l.cap ≠ 0 → b ≠ l.blk)) ∨ (j ≠ H.length ∧ j ≠ r ∧ j = k)) := fun j o b ho hb => by
    rcases hobj j o ho with ⟨rfl, rfl⟩ | ⟨rfl, rfl⟩ | ⟨hj, hjr, ho⟩
    · rw [upd_self] at hb
      exact ⟨r, _, hr, .inr ⟨i, _, hi, hb.1, hb.2⟩, .inl ⟨rfl, rfl, hb.1, hb.2⟩⟩
    · rw [upd_ne (by omega)] at hb
      rcases hb with hb | ⟨k, p, hk, hc, rfl⟩
      · exact ⟨j, _, hr, .inl hb, .inr (.inl ⟨rfl, rfl, fun hl e => (d3 hl).1 hb.1 (e.symm.trans hb.2)⟩)⟩
      · obtain ⟨hki, hk⟩ := hget k p hk
        exact ⟨j, _, hr, .inr ⟨k, p, hk, hc, rfl⟩, .inr (.inl ⟨rfl, rfl, fun hl e => hki ((d3 hl).2 rfl k p hk hc e)⟩)⟩
    · rw [upd_ne (by omega)] at hb
      exact ⟨j, o, ho, hb, .inr (.inr ⟨by omega, hjr, rfl⟩)⟩
  refine ⟨hag, h.below, h.start, fun j o ho => ?_, fun j o b ho hb => ?_, fun j o b ho hb => ?_, h.sub⟩
  · rcases hobj j o ho with ⟨rfl, rfl⟩ | ⟨rfl, rfl⟩ | ⟨hj, hjr, ho⟩
    · rw [upd_self]
      exact d1
    · rw [upd_ne (by omega)]
      refine ⟨c1, by simpa using c2, c3, fun k p hk => ?_⟩
      obtain ⟨hki, hk⟩ := hget k p hk
      obtain ⟨e1, e2, e3⟩ := c4 k p hk
      exact ⟨e1, e2, fun hc => ⟨(e3 hc).1, fun _ k' q hk' hq e => (e3 hc).2 rfl k' q (hget k' q hk').2 hq e⟩⟩
    · rw [upd_ne (by omega)]
      have := (h.obj j o ho).mono (M := []) (N' := (H.set r (.rows3 true sz (es.set i none)) ++ [PO.rows false sz rs]).length) (by simp) hag (w' := w) fun _ _ => rfl
      rwa [killO_nil] at this
  · obtain ⟨k, o', ho', hb', hjk⟩ := hown j o b ho hb
    obtain ⟨k1, k2, k3⟩ := h.own k o' b ho' hb'
    refine ⟨k1, k2, fun j2 o2 ho2 hb2 => ?_⟩
    obtain ⟨m, o3, ho3, hb3, hjm⟩ := hown j2 o2 b ho2 hb2
    have e := k3 m o3 ho3 hb3
    rcases hjk with ⟨a1, a2, a3, a4⟩ | ⟨a1, a2, a3⟩ | ⟨a1, a2, a3⟩ <;> rcases hjm with ⟨b1, b2, b3, b4⟩ | ⟨b1, b2, b3⟩ | ⟨b1, b2, b3⟩
    · omega
    · exact absurd a4 (b3 a3)
    · omega
    · exact absurd b4 (a3 b3)
    · omega
    · omega
    · omega
    · omega
    · omega
  · rcases hobj j o ho with ⟨rfl, rfl⟩ | ⟨rfl, rfl⟩ | ⟨hj, hjr, ho⟩
    · exact hb.elim
    · exact hb.elim
    · rw [upd_ne (by omega)] at hb
      exact h.ro j o b ho hb

theorem append3_sound (h : Rel B R w0 L H w) {ts : List TypeId} {ty : TypeId} {r i n : Nat} {l : ILoc} {x : AV} {v u : Value} (hs : VA H.length L (cv (.hslc r i l n)) v) (hx : VA H.length L x u) {K : AV → List Nat → List PO → Prop} (ha : append3A P H ts r i l n x K) :
    ∃ r w', (Builtin.append_ ts.toArray ty #[v, u]).run P w = .ok r w' ∧ Left B R w0 H.length L K r w' := by
  unfold append3A at ha
  rw [nth_eq] at ha
  split at ha <;> try exact ha.elim
  rename_i sz es hr
  obtain ⟨rs, hi, rfl, ha⟩ := ha
  rw [setK_eq] at ha
  have ha := snocK_spec ha
  rw [List.length_set] at ha
  obtain ⟨hag, hrel⟩ := take3 h hr hi
  have hlen : (H.set r (.rows3 true sz (es.set i none)) ++ [PO.rows false sz rs]).length = H.length + 1 := by simp
  have hs' : VA (H.set r (.rows3 true sz (es.set i none)) ++ [PO.rows false sz rs]).length (upd L H.length ⟨l, fun _ => l⟩) (cv (.slc H.length 0 rs.length none false)) v := by
    refine ⟨by omega, ?_⟩
    rw [upd_self]
    exact hs
  have hx' := hx.mono (M := []) (N' := (H.set r (.rows3 true sz (es.set i none)) ++ [PO.rows false sz rs]).length) (by omega) hag
  rw [killA_nil] at hx'
  obtain ⟨rv, w', hrun, L', y, M, H', k1, k2, k3, k4, k5⟩ := append_sound (ty := ty) hrel hs' hx' ha
  exact ⟨rv, w', hrun, L', y, M, H', fun j hj hm => (k1 j (by omega) hm).trans (hag j hj (by simp)), by omega, k3, k4, k5⟩

theorem append2_sound (h : Rel B R w0 L H w) {ts : List TypeId} {ty : TypeId} {s x : AV} {v u : Value} (hs : VA H.length L s v) (hx : VA H.length L x u) {K : AV → List Nat → List PO → Prop} (ha : append2A P H ts s x K) :
    ∃ r w', (Builtin.append_ ts.toArray ty #[v, u]).run P w = .ok r w' ∧ Left B R w0 H.length L K r w' := by
  unfold append2A at ha
  split at ha <;> try exact ha.elim
  rename_i t u'
  split at ha <;> try exact ha.elim
  rename_i e e' he he'
  split at ha <;> try exact ha.elim
  rename_i i z hi hz
  simp only [cond_eq_ite, Bool.and_eq_true] at ha
  split at ha <;> try exact ha.elim
  rename_i hc
  obtain ⟨hi1, hzl⟩ := hc
  have hi1 : i.size = 1 := Nat.eq_of_beq_eq_true hi1
  obtain ⟨zv, hzv, hzr⟩ := zero_spec (N := H.length) (L := L) hi hz
  have hzc : zv.cells.size = 1 := by
    have h1 := (VP.cells hzr).length
    have h2 := lenIs_spec _ _ hzl
    rw [← h2, h1]; simp
  have ht := elemT_spec he
  have hu := elemT_spec he'
  split at ha <;> try exact ha.elim
  rename_i r2 m nn2
  rw [nth_eq] at ha
  split at ha <;> try exact ha.elim
  rename_i sz xs hxs
  split at ha <;> try exact ha.elim
  rename_i r n nn
  split at ha <;> try exact ha.elim
  rename_i hne
  have hne : r ≠ r2 := fun e => by subst e; simp at hne
  rw [nth_eq] at ha
  split at ha <;> try exact ha.elim
  rename_i sz' rs hrs
  split at ha <;> try exact ha.elim
  rename_i hb
  obtain rfl := Nat.eq_of_beq_eq_true hb
  obtain ⟨rfl, rfl, h47, h63, hK⟩ := ha
  rw [killHK_eq, setK_eq, setK_eq] at hK
  obtain ⟨hr2N, hh2⟩ := hx
  obtain ⟨hrN, hh⟩ := hs
  have hO := h.obj r _ hrs
  have hO2 := h.obj r2 _ hxs
  obtain ⟨osz, ocap, oown, oin, odis⟩ := id hO
  have hxv := outs_hdr hO2 hh2
  have hlx := outs_length (w := w) (h := (L r2).h) (n := xs.length)
  have hlr := outs_length (w := w) (h := (L r).h) (n := rs.length)
  have hone : ∀ z ∈ outs w (L r2).h xs.length, OneCell z = true := fun z hz => by
    obtain ⟨j, hj⟩ := List.mem_iff_getElem?.1 hz
    obtain ⟨_, _, _, g⟩ := outs_get hO2 hj
    exact g.one
  -- whatever world it comes to
  have fin : ∀ (rv : Value) (w' : World) (l' : ILoc), Bel (fun k => k < w.heap.size ∧ ¬ ((L r).h.cap ≠ 0 ∧ k = (L r).h.blk)) w w' → (l'.cap ≠ 0 → l'.blk < w'.heap.size ∧ (w.heap.size ≤ l'.blk ∨ (L r).h.cap ≠ 0 ∧ l'.blk = (L r).h.blk)) →
      l'.sz = 1 → rs.length + xs.length ≤ l'.cap → (l'.cap ≠ 0 → l'.base = 0 ∧ ∃ q, l'.cap ≤ q ∧ Cells w' l'.blk q) →
      (∀ (j : Nat) (z : Value), (outs w (L r).h rs.length ++ outs w (L r2).h xs.length)[j]? = some z → w'.cell? (l'.at j 0) = some z) →
      Hdr l' 0 (rs.length + xs.length) none nn rv → Left B R w0 H.length L K rv w' := by
    intro rv w' l' k1 k2 k3 k4 k5 k6 k7
    have hnB : ∀ k, B k → k < w.heap.size ∧ ¬ ((L r).h.cap ≠ 0 ∧ k = (L r).h.blk) := fun k hk => ⟨h.size k hk, fun hh => (h.own r _ k hrs (.inl hh)).1 hk⟩
    have hag : Agree H.length [r, r2] L (upd L r ⟨l', fun j => if j < rs.length then (L r).inn j else (L r2).inn (j - rs.length)⟩) := fun j _ hm => upd_ne (by simp at hm; exact hm.1)
    have hinn : ∀ j, j < rs.length → (fun j => if j < rs.length then (L r).inn j else (L r2).inn (j - rs.length)) j = (L r).inn j := fun j hj => if_pos hj
    have hinn2 : ∀ j, ¬ j < rs.length → (fun j => if j < rs.length then (L r).inn j else (L r2).inn (j - rs.length)) j = (L r2).inn (j - rs.length) := fun j hj => if_neg hj
    have hrel := h.seize (M := [r, r2]) (L' := upd L r ⟨l', fun j => if j < rs.length then (L r).inn j else (L r2).inn (j - rs.length)⟩) (H' := ((H.map (killO [r, r2])).set r (.rows2 false sz' (rs ++ xs))).set r2 .gone) (w' := w') r [r2] (.rows2 false sz' (rs ++ xs))
      (by simp) (by rw [List.getElem?_set_ne (Ne.symm hne), List.getElem?_set_self (by simpa using hrN)]) (fun j hj o ho => by
        by_cases hj2 : j = r2
        · subst hj2
          rw [List.getElem?_set_self (by simpa using hr2N)] at ho
          exact .inl (Option.some.inj ho).symm
        · rw [List.getElem?_set_ne (Ne.symm hj2), List.getElem?_set_ne (Ne.symm hj), List.getElem?_map, Option.map_eq_some_iff] at ho
          obtain ⟨o1, ho1, rfl⟩ := ho
          exact .inr ⟨by simpa using hj2, o1, ho1, rfl⟩) hag (fun j hj => upd_ne hj)
      ⟨k1.os, k1.tape, k1.output, k1.size, fun k hk => k1.block k (hnB k hk)⟩ (fun b hb => by
        by_cases hh : (L r).h.cap ≠ 0 ∧ b = (L r).h.blk
        · exact .inr ⟨r, _, .inl rfl, hrs, .inl hh⟩
        · exact .inl (k1.block b ⟨hb, hh⟩)) (fun b hb => by
        rw [upd_self] at hb
        rcases hb with ⟨hc, rfl⟩ | ⟨j, hj, hc, rfl⟩
        · obtain ⟨g1, g2 | g2⟩ := k2 hc
          · exact ⟨fun hB => by have := h.size _ hB; simp only at this; omega, g1, .inl g2⟩
          · exact ⟨(h.own r _ _ hrs (.inl g2)).1, g1, .inr ⟨r, _, .inl rfl, hrs, .inl g2⟩⟩
        · dsimp only at hc ⊢
          rw [List.length_append] at hj
          by_cases hjl : j < rs.length
          · rw [if_pos hjl] at hc ⊢
            have hb : Own (.rows2 false sz' rs) (L r) ((L r).inn j).blk := .inr ⟨j, hjl, hc, rfl⟩
            obtain ⟨g1, g2, _⟩ := h.own r _ _ hrs hb
            exact ⟨g1, Nat.lt_of_lt_of_le g2 k1.size, .inr ⟨r, _, .inl rfl, hrs, hb⟩⟩
          · rw [if_neg hjl] at hc ⊢
            have hb : Own (.rows2 false sz' xs) (L r2) ((L r2).inn (j - rs.length)).blk := .inr ⟨j - rs.length, by omega, hc, rfl⟩
            obtain ⟨g1, g2, _⟩ := h.own r2 _ _ hxs hb
            exact ⟨g1, Nat.lt_of_lt_of_le g2 k1.size, .inr ⟨r2, _, .inr (by simp), hxs, hb⟩⟩) (fun b hb => hb.elim) (by
        rw [upd_self]
        refine ⟨k3, by simpa using k4, fun _ hc => k5 hc, fun j q hq => ?_, fun _ hc j hj hcj => ?_⟩
        · by_cases hjl : j < rs.length
          · rw [List.getElem?_append_left hjl] at hq
            obtain ⟨g1, v1, g2, g3⟩ := oin j q hq
            dsimp only
            rw [if_pos hjl]
            refine ⟨g1.mono fun hc => ?_, v1, k6 j v1 ?_, g3⟩
            · have hb : Own (.rows2 false sz' rs) (L r) ((L r).inn j).blk := .inr ⟨j, hjl, hc, rfl⟩
              exact k1.block _ ⟨(h.own r _ _ hrs hb).2.1, fun hh => odis rfl hh.1 j hjl hc hh.2⟩
            · rw [List.getElem?_append_left (by omega)]
              simp [outs, List.getElem?_range hjl, g2]
          · rw [List.getElem?_append_right (by omega)] at hq
            have hj2 := (List.getElem?_eq_some_iff.1 hq).1
            obtain ⟨g1, v1, g2, g3⟩ := hO2.2.2.2.1 _ q hq
            dsimp only
            rw [if_neg hjl]
            refine ⟨g1.mono fun hc => ?_, v1, k6 j v1 ?_, g3⟩
            · have hb : Own (.rows2 false sz' xs) (L r2) ((L r2).inn (j - rs.length)).blk := .inr ⟨_, hj2, hc, rfl⟩
              obtain ⟨_, g4, g5⟩ := h.own r2 _ _ hxs hb
              exact k1.block _ ⟨g4, fun hh => hne (g5 r _ hrs (.inl hh))⟩
            · rw [List.getElem?_append_right (by omega), hlr]
              simp [outs, List.getElem?_range hj2, g2]
        · rw [List.length_append] at hj
          dsimp only at hcj ⊢
          obtain ⟨_, g2⟩ := k2 hc
          by_cases hjl : j < rs.length
          · rw [if_pos hjl] at hcj ⊢
            have hb : Own (.rows2 false sz' rs) (L r) ((L r).inn j).blk := .inr ⟨j, hjl, hcj, rfl⟩
            obtain ⟨_, g4, _⟩ := h.own r _ _ hrs hb
            rcases g2 with g2 | ⟨g2, g3⟩
            · omega
            · rw [g3]; exact odis rfl g2 j hjl hcj
          · rw [if_neg hjl] at hcj ⊢
            have hb : Own (.rows2 false sz' xs) (L r2) ((L r2).inn (j - rs.length)).blk := .inr ⟨_, by omega, hcj, rfl⟩
            obtain ⟨_, g4, g5⟩ := h.own r2 _ _ hxs hb
            rcases g2 with g2 | ⟨g2, g3⟩
            · omega
            · exact fun hh => hne (g5 r _ hrs (.inl ⟨g2, by rw [hh, g3]⟩)))
    refine ⟨_, _, _, _, hag, by simp, ?_, hrel, hK⟩
    refine ⟨by simpa using hrN, ?_⟩
    rw [upd_self]
    exact k7
  have hg : ∀ (j : Nat) (z : Value), (outs w (L r).h rs.length)[j]? = some z → w.cell? ⟨(L r).h.blk, (L r).h.base + j, none⟩ = some z := fun j z hz => by
    have := (outs_get hO hz).1
    simpa [ILoc.at, osz] using this
  have out : ∀ k, ((rs.length = 0 ∧ k = 0 ∧ v = .slice none 0 0) ∨ ∃ b, v = .slice (some b) rs.length k ∧ ∀ (j : Nat) (z : Value), (outs w (L r).h rs.length)[j]? = some z → w.cell? (b.add j) = some z) → k < rs.length + xs.length →
      ∃ rv w', (Builtin.append_ [t, u'].toArray ty #[v, u]).run P w = .ok rv w' ∧ Left B R w0 H.length L K rv w' := by
    intro k hv hlt
    have hr := run_append_out (P := P) (w := w) (ty := ty) (os := outs w (L r).h rs.length) ht hi hzv hv (by rw [hlr, hi1]; simp) (.inl ⟨_, hu, hxv⟩) (by rw [hlx, hi1]; simp) hlt h47 h63
    have hcap := grownCap_ge w (rs.length + xs.length) k e
    have hsize : ((outs w (L r).h rs.length).toArray ++ (outs w (L r2).h xs.length).toArray ++ Builtin.zeroCells zv.cells (grownCap w (rs.length + xs.length) k e - (rs.length + xs.length))).size = grownCap w (rs.length + xs.length) k e := by
      simp only [Array.size_append, List.size_toArray, hlr, hlx, size_zeroCells, hzc]
      omega
    refine ⟨_, _, hr, fin _ _ ⟨w.heap.size, 0, grownCap w (rs.length + xs.length) k e, 1⟩ ?_ (fun _ => ⟨by simp, .inl (Nat.le_refl _)⟩) rfl hcap (fun _ => ⟨rfl, _, Nat.le_refl _, _, _, _, heap_alloc_eq _ _, hsize, by simp⟩) (fun j z hz => ?_) (.inr ⟨_, _, rfl, hcap, by simp, by simp, by simp, fun _ => by simp [ILoc.at]⟩)⟩
    · exact ((Bel.refl _ w).drew).trans ⟨rfl, rfl, rfl, by simp, fun q hq => heap_alloc_lt _ _ _ (by simpa using hq.1)⟩
    · have hw : w.drew.heap.size = w.heap.size := rfl
      have hj : j < (outs w (L r).h rs.length ++ outs w (L r2).h xs.length).length := (List.getElem?_eq_some_iff.1 hz).1
      have hblk : (w.drew.alloc (Obj.cells ((outs w (L r).h rs.length).toArray ++ (outs w (L r2).h xs.length).toArray ++ Builtin.zeroCells zv.cells (grownCap w (rs.length + xs.length) k e - (rs.length + xs.length))) e)).heap[w.heap.size]? = some _ := heap_alloc_eq w.drew _
      simp only [World.cell?, ILoc.at, hblk, Nat.zero_add, Nat.mul_one, Nat.add_zero]
      rw [Array.getElem?_append_left (by simpa using hj)]
      simpa using hz
  rcases id hh with ⟨hnn, hn0, hv, _⟩ | ⟨a, k, hv, hnk, _, hok, hoc, hat⟩
  · rcases Nat.eq_zero_or_pos xs.length with hm | hm
    · have hr0 : rs = [] := List.length_eq_zero_iff.1 hn0
      have hx0 : xs = [] := List.length_eq_zero_iff.1 hm
      subst hx0; subst hr0; subst hv
      refine ⟨_, w, run_append_in (a := none) ht hi (.inl ⟨_, hu, hxv⟩) (by rw [hlx, hi1]; simp) (by simp) (fun a0 ha0 => by cases ha0) (fun _ => rfl), fin _ w ⟨0, 0, 0, 1⟩ (Bel.refl _ _) (fun hc => absurd rfl hc) rfl (by simp) (fun hc => absurd rfl hc) (fun j z hz => by simp [outs] at hz) (.inl ⟨hnn, rfl, rfl, by simp⟩)⟩
    · exact out 0 (.inl ⟨hn0, rfl, hv⟩) (by omega)
  · have hva : ∀ (j : Nat) (z : Value), (outs w (L r).h rs.length)[j]? = some z → w.cell? (a.add j) = some z := fun j z hz => by
      have hj : j < rs.length := by have := (List.getElem?_eq_some_iff.1 hz).1; rwa [hlr] at this
      rw [hat (by omega), Addr.add_none _ _ rfl]
      simpa [ILoc.at, osz] using hg j z hz
    rcases Nat.lt_or_ge k (rs.length + xs.length) with hlt | hge
    · exact out k (.inr ⟨a, hv, hva⟩) hlt
    · -- there is room
      subst hv
      rcases Nat.eq_zero_or_pos xs.length with hm | hm
      · have hx0 : xs = [] := List.length_eq_zero_iff.1 hm
        subst hx0
        refine ⟨_, w, run_append_in (a := some a) ht hi (.inl ⟨_, hu, hxv⟩) (by rw [hlx, hi1]; simp) (by simp at hge ⊢; omega) (fun a0 _ => by simp [outs, storeCells]) (fun ha0 => by cases ha0), fin _ w ⟨(L r).h.blk, (L r).h.base, k, 1⟩ (Bel.refl _ _)
          (fun hk => ⟨(h.own r _ _ hrs (.inl ⟨by simp at hk; omega, rfl⟩)).2.1, .inr ⟨by simp at hk; omega, rfl⟩⟩) rfl (by simpa using hnk) (fun hk => by
            obtain ⟨hb0, q, hq, hcc⟩ := oown rfl (by simp at hk; omega)
            exact ⟨hb0, q, Nat.le_trans (by simp; omega) hq, hcc⟩) (fun j z hz => by
            have := hg j z (by simpa [outs] using hz)
            simpa [ILoc.at] using this) (.inr ⟨a, k, rfl, by simpa using hnk, by simp, by simp, by simp, fun hk => by rw [hat hk]; simp [ILoc.at]⟩)⟩
      · have hk0 : k ≠ 0 := by omega
        have hcap0 : (L r).h.cap ≠ 0 := by omega
        obtain ⟨hb0, q, hq, cc, ct, cfr, hblk, hcs, hfr⟩ := oown rfl hcap0
        have ha := hat hk0
        have hfit : rs.length + (outs w (L r2).h xs.length).length ≤ q := by rw [hlx]; omega
        obtain ⟨w', c', hrun, hbel, hkk, hzz, hb', hc', hout, hin⟩ := run_storeCells' (P := P) (a := ⟨(L r).h.blk, rs.length, none⟩) rfl (outs w (L r2).h xs.length) w cc 0 hblk (by simpa [hcs] using hfit) hfr hone
        have haa : a.add (rs.length * i.size) = ⟨(L r).h.blk, rs.length, none⟩ := by rw [ha, Addr.add_none _ _ rfl]; simp [ILoc.at, hb0, hi1]
        refine ⟨_, w', run_append_in (a := some a) ht hi (.inl ⟨_, hu, hxv⟩) (by rw [hlx, hi1]; simp) hge (fun a0 ha0 => by cases ha0; rw [haa]; exact hrun) (fun ha0 => by cases ha0), fin _ w' ⟨(L r).h.blk, 0, k, 1⟩
          ⟨hbel.os, hbel.tape, hbel.output, hbel.size, fun b hb => hbel.block b fun e => hb.2 ⟨hcap0, e⟩⟩ (fun _ => ⟨Nat.lt_of_lt_of_le (h.own r _ _ hrs (.inl ⟨hcap0, rfl⟩)).2.1 (by omega), .inr ⟨hcap0, rfl⟩⟩) rfl hge (fun _ => ⟨rfl, q, by simp; omega, c', ct, cfr, hb', by rw [hc', hcs], by rw [hc']; exact hfr⟩) (fun j z hz => ?_)
          (.inr ⟨a, k, rfl, hge, by simp, by simp, by simp, fun _ => by rw [ha]; simp [ILoc.at, hb0]⟩)⟩
        simp only [World.cell?, ILoc.at, hb', Nat.zero_add, Nat.mul_one, Nat.add_zero]
        rcases Nat.lt_or_ge j rs.length with hjl | hjl
        · rw [List.getElem?_append_left (by omega)] at hz
          have := hg j z hz
          simp only [World.cell?, hb0, hblk, Nat.zero_add] at this
          rw [hout j (.inl (by simpa using hjl))]
          simpa using this
        · rw [List.getElem?_append_right (by omega), hlr] at hz
          have := hin _ z hz
          simp only [Nat.add_zero] at this
          rwa [show rs.length + (j - rs.length) = j by omega] at this

/-- A new object of slices that needs no block yet. -/
theorem none2_sound (h : Rel B R w0 L H w) (sz : Nat) : Agree H.length [] L (upd L H.length ⟨⟨0, 0, 0, 1⟩, fun _ => ⟨0, 0, 0, 0⟩⟩) ∧ Rel B R w0 (upd L H.length ⟨⟨0, 0, 0, 1⟩, fun _ => ⟨0, 0, 0, 0⟩⟩) (H ++ [.rows2 false sz []]) w := by
  have hag := upd_agree L ⟨⟨0, 0, 0, 1⟩, fun _ => ⟨0, 0, 0, 0⟩⟩ H.length []
  refine ⟨hag, h.put (M := []) H.length (.rows2 false sz []) (by simp) (by simp) (fun j hj o1 ho1 => ?_) hag (fun j hj => upd_ne hj) (Bel.refl _ _) (fun _ _ => .inl rfl) (fun b hb => ?_) (fun b hb => hb.elim) ?_⟩
  · rcases Nat.lt_or_gt_of_ne hj with hl | hg
    · rw [List.getElem?_append_left hl] at ho1
      exact ⟨o1, ho1, (killO_nil o1).symm⟩
    · rw [List.getElem?_eq_none (by simp; omega)] at ho1
      cases ho1
  · rw [upd_self] at hb
    rcases hb with ⟨hc, _⟩ | ⟨i, hi, _⟩
    · exact absurd rfl hc
    · simp at hi
  · rw [upd_self]; exact ⟨rfl, Nat.le_refl _, fun _ hc => absurd rfl hc, fun i r hi => by simp at hi, fun _ hc => absurd rfl hc⟩

end
end Go.Mac
end

/- The machine of abstract values, part 4b: clear, bytes and texts. -/
section
namespace Go.Mac
open Go

section
variable {B R : Nat → Prop} {w0 : World} {N : Nat} {L : Nat → Loc} {H : List PO} {P : Program} {w : World}

theorem zrow_spec {e : TypeId} {k : TypeInfo → List FC → Prop} (h : zrowA P e k) : ∃ i z zf, P.info? e = some i ∧ i.zero = some z ∧ 0 < i.size ∧ z.cells.toList = zf.map FC.val ∧ zf.length = i.size ∧ k i zf := by
  unfold zrowA at h
  split at h <;> try exact h.elim
  rename_i i z hi hz
  simp only [cond_eq_ite, Bool.and_eq_true] at h
  split at h <;> try exact h.elim
  rename_i hc
  have hsz : 0 < i.size := by simpa [Nat.blt_eq] using hc.1
  have hzl := lenIs_spec _ _ hc.2
  split at h <;> try exact h.elim
  rename_i zf hzf
  obtain ⟨zv, hzv, hzr⟩ := zero_spec (N := 0) (L := fun _ => ⟨⟨0, 0, 0, 0⟩, fun _ => ⟨0, 0, 0, 0⟩⟩) hi hz
  have hzc := VP.cells hzr
  rw [fcs_spec hzf] at hzc hzl
  exact ⟨i, zv, zf, hi, hzv, hsz, VCs_f hzc, by simpa using hzl, h⟩

/-- Rows are laid over rows of one's own. -/
theorem store_rows (h : Rel B R w0 L H w) {r sz : Nat} {rs : List (List FC)} (hrs : H[r]? = some (.rows false sz rs)) {o m : Nat} {xs : List (List FC)} (hxs : ∀ q ∈ xs, q.length = sz) (hxm : xs.length = m) (hm : 0 < m) (hle : o + m ≤ rs.length) :
    ∃ w', (storeCells ((L r).h.at o 0) (vals xs) 0).run P w = .ok () w' ∧ Rel B R w0 L (H.set r (.rows false sz (rs.take o ++ xs ++ rs.drop (o + m)))) w' := by
  obtain ⟨osz, hsz, ocap, oown, ocell⟩ := h.obj r _ hrs
  have hcap0 : (L r).h.cap ≠ 0 := by omega
  obtain ⟨hb0, q, hq, hcc⟩ := oown rfl hcap0
  have hxl := vals_length hxs
  rw [hxm] at hxl
  have hfit : o * sz + (vals xs).length ≤ q := by
    rw [hxl, ← Nat.add_mul]; exact Nat.le_trans (Nat.mul_le_mul_right _ (by omega)) hq
  have hat' : ∀ i' g, (L r).h.at i' g = ⟨(L r).h.blk, i' * sz + g, none⟩ := fun i' g => by simp [ILoc.at, hb0, osz]
  rw [hat', Nat.add_zero]
  exact store_cells (P := P) h hrs (o' := .rows false sz (rs.take o ++ xs ++ rs.drop (o + m))) (b := (L r).h.blk) (off := o * sz) (n := q) ⟨hcap0, rfl⟩ (fun _ => Iff.rfl) (fun _ => Iff.rfl) hcc (vals xs) vals_one hfit
    (fun w' hk' hcc' hout hin => by
      refine ⟨osz, hsz, by simp; omega, fun _ _ => ⟨hb0, q, hq, hcc'⟩, fun j p hp => ?_⟩
      have hp' : (j < o ∨ o + m ≤ j) ∧ rs[j]? = some p ∨ (o ≤ j ∧ j < o + m) ∧ xs[j - o]? = some p := by
        rw [List.append_assoc] at hp
        rcases Nat.lt_or_ge j o with hj | hj
        · rw [List.getElem?_append_left (by simp; omega), List.getElem?_take, if_pos hj] at hp
          exact .inl ⟨.inl hj, hp⟩
        · rw [List.getElem?_append_right (by simp; omega)] at hp
          simp only [List.length_take, Nat.min_eq_left (show o ≤ rs.length by omega)] at hp
          rcases Nat.lt_or_ge j (o + m) with hj2 | hj2
          · rw [List.getElem?_append_left (by omega)] at hp
            exact .inr ⟨⟨hj, hj2⟩, hp⟩
          · rw [List.getElem?_append_right (by omega), List.getElem?_drop, hxm, show o + m + (j - o - m) = j by omega] at hp
            exact .inl ⟨.inr hj2, hp⟩
      rcases hp' with ⟨hj, hp'⟩ | ⟨hj, hp'⟩
      · refine ⟨(ocell j p hp').1, fun f x hf => ?_⟩
        have hfl : f < sz := by have := (List.getElem?_eq_some_iff.1 hf).1; rw [(ocell j p hp').1] at this; exact this
        have h1 := (ocell j p hp').2 f x hf
        rw [hat'] at h1 ⊢
        rw [hout _ ?_, h1]
        rw [hxl]
        rcases hj with hj | hj
        · left
          have : (j + 1) * sz ≤ o * sz := Nat.mul_le_mul_right _ hj
          rw [Nat.add_mul] at this; omega
        · right
          have : (o + m) * sz ≤ j * sz := Nat.mul_le_mul_right _ hj
          rw [Nat.add_mul] at this; omega
      · refine ⟨hxs p (List.mem_of_getElem? hp'), fun f x hf => ?_⟩
        have := hin _ _ (flat_get hxs hp' hf)
        rw [hat']
        rw [← this]
        congr 2
        rw [← Nat.add_assoc, ← Nat.add_mul]
        congr 2; omega)

theorem zeroCells_rows {z : Array Value} {zf : List FC} (hz : z.toList = zf.map FC.val) (hpos : 0 < zf.length) (n : Nat) : (Builtin.zeroCells z n).toList = vals (List.replicate n zf) := by
  have hzs : z.size = zf.length := by simpa using congrArg List.length hz
  have hall : ∀ r ∈ List.replicate n zf, r.length = zf.length := fun r hr => by rw [List.eq_of_mem_replicate hr]
  have hlen := vals_length hall
  simp only [List.length_replicate] at hlen
  refine List.ext_getElem? fun j => ?_
  rcases Nat.lt_or_ge j (n * zf.length) with hj | hj
  · obtain ⟨v, hv⟩ : ∃ v, (vals (List.replicate n zf))[j]? = some v := ⟨_, List.getElem?_eq_getElem (by rw [hlen]; exact hj)⟩
    rw [hv]
    obtain ⟨a, f, r, y, rfl, hf, ha, hr, rfl⟩ := vals_get hall hpos hv
    have hrz : r = zf := List.eq_of_mem_replicate (List.mem_of_getElem? ha)
    subst hrz
    have h1 : z[f]? = some y.val := by
      have := congrArg (·[f]?) hz
      simp only [List.getElem?_map, hr, Array.getElem?_toList] at this
      exact this
    have h2 : (a * r.length + f) % z.size = f := by rw [hzs, Nat.mul_comm, Nat.mul_add_mod, Nat.mod_eq_of_lt hf]
    simp only [Builtin.zeroCells, Array.toList_map, Array.toList_range, List.getElem?_map]
    rw [List.getElem?_range (by rw [hzs]; exact hj)]
    simp only [Option.map_some, h2]
    rw [getElem!_def, h1]
  · rw [List.getElem?_eq_none (by rw [Array.length_toList, size_zeroCells, hzs]; exact hj), List.getElem?_eq_none (by rw [hlen]; exact hj)]

theorem clear_sound (h : Rel B R w0 L H w) {ts : List TypeId} {ty : TypeId} {x : AV} {v : Value} (hx : VA H.length L x v) {K : List PO → Prop} (hs : clearA P H ts x K) :
    ∃ w' H', (Builtin.clear_ ts.toArray ty #[v]).run P w = .ok (.tuple #[]) w' ∧ H.length ≤ H'.length ∧ Rel B R w0 L H' w' ∧ K H' := by
  unfold clearA at hs
  split at hs <;> try exact hs.elim
  rename_i t
  split at hs <;> try exact hs.elim
  rename_i e he
  obtain ⟨i, z, zf, hi, hz, hsz, hzc, hzl, hs⟩ := zrow_spec hs
  have ht := elemT_spec he
  split at hs <;> try exact hs.elim
  · obtain rfl := hx
    exact ⟨w, H, by simp [Builtin.clear_, run_underlying_some ht], Nat.le_refl _, h, hs⟩
  · rename_i r o n _ _ _
    obtain ⟨hr, hh⟩ := hx
    rw [nth_eq] at hs
    split at hs <;> try exact hs.elim
    rename_i sz rs hrs
    simp only [cond_eq_ite] at hs
    split at hs <;> try exact hs.elim
    rename_i hb
    have hb := Nat.eq_of_beq_eq_true hb
    subst hb
    obtain ⟨hle, hK⟩ := hs
    rw [setK_eq] at hK
    rcases Nat.eq_zero_or_pos n with hn | hn
    · subst hn
      have hset : H.set r (.rows false i.size (rs.take o ++ List.replicate 0 zf ++ rs.drop (o + 0))) = H := List.ext_getElem? fun j => by
        by_cases hj : j = r
        · subst hj; rw [List.getElem?_set_self (List.getElem?_eq_some_iff.1 hrs).1, hrs]; simp
        · rw [List.getElem?_set_ne (Ne.symm hj)]
      rw [hset] at hK
      rcases hh with ⟨_, _, rfl, _⟩ | ⟨a, k, rfl, _⟩
      · exact ⟨w, H, by simp [Builtin.clear_, run_underlying_some ht], Nat.le_refl _, h, hK⟩
      · exact ⟨w, H, by simp [Builtin.clear_, run_underlying_some ht], Nat.le_refl _, h, hK⟩
    · obtain ⟨k, rfl, hnk, _⟩ := hh.pos hn
      obtain ⟨w', hrun, hrel⟩ := store_rows (P := P) h hrs (o := o) (m := n) (xs := List.replicate n zf) (fun q hq => by rw [List.eq_of_mem_replicate hq]; exact hzl) (by simp) hn hle
      refine ⟨w', _, ?_, by simp, hrel, hK⟩
      obtain ⟨n, rfl⟩ : ∃ m, n = m + 1 := ⟨n - 1, by omega⟩
      rw [← zeroCells_rows hzc (by omega)] at hrun
      simp [Builtin.clear_, run_underlying_some ht, zeroValue, typeInfo, hi, hz, hrun]

/-- A new object of rows, its block marked or not. -/
theorem new_rows' (h : Rel B R w0 L H w) {sz n cap : Nat} {rs : List (List FC)} {c : Array Value} {e : TypeId} {fr : Nat × Nat} (hfr : ∀ i, i < c.size → ¬ (fr.1 ≤ i ∧ i < fr.2)) (hsz : 0 < sz) (hs : ∀ r ∈ rs, r.length = sz) (hl : rs.length = n) (hcap : n ≤ cap) (hc : c.size = cap * sz)
    (hg : ∀ (j : Nat) (v : Value), (vals rs)[j]? = some v → c[j]? = some v) {K : AV → List Nat → List PO → Prop} (hK : K (cv (.slc H.length 0 n none true)) [] (H ++ [.rows false sz rs])) :
    Left B R w0 H.length L K (.slice (some ⟨w.heap.size, 0, none⟩) n cap) (w.alloc (.cells c e fr)) := by
  have hR := rows_of_cells (w := w.alloc (.cells c e fr)) (heap_alloc_eq w _) hc hfr hsz (by omega) (Nat.le_refl _) hs hg true
  obtain ⟨h1, h2⟩ := alloc_sound h (.rows false sz rs) ⟨⟨w.heap.size, 0, cap, sz⟩, fun _ => ⟨0, 0, 0, 0⟩⟩ c e (fun b hb => hb.2) (fun b hb => hb) hR
  refine ⟨_, _, [], _, h1, by simp, ?_, h2, hK⟩
  refine ⟨by simp, .inr ⟨_, cap, rfl, hcap, by simp, ?_, ?_, fun _ => ?_⟩⟩ <;> rw [upd_self] <;> simp [ILoc.at]

theorem grow_sound (h : Rel B R w0 L H w) {ts : List TypeId} {ty : TypeId} {k : IntKind} {m : Int} {K : AV → List Nat → List PO → Prop} (ha : growA P H ts m K) :
    ∃ r w', (Builtin.append_ ts.toArray ty #[.slice none 0 0, .int k m]).run P w = .ok r w' ∧ Left B R w0 H.length L K r w' := by
  unfold growA at ha
  split at ha <;> try exact ha.elim
  rename_i t u
  split at ha <;> try exact ha.elim
  rename_i e ku he hu
  obtain ⟨i, z, zf, hi, hz, hsz, hzc, hzl, hm0, h47, h63, hK⟩ := zrow_spec ha
  have ht := elemT_spec he
  have hK := snocK_spec hK
  obtain ⟨n, rfl⟩ := Int.eq_ofNat_of_zero_le (show 0 ≤ m by omega)
  rw [Int.toNat_natCast] at h47 hK
  have hn : n ≠ 0 := by omega
  have hzs : z.cells.size = i.size := by rw [← hzl]; simpa using congrArg List.length hzc
  have hw : IntKind.i64.wrap ((n : Nat) : Int) = n := by
    have e1 : ((n : Int)) % 18446744073709551616 = n := by omega
    show (if (true && decide ((n : Int) % 18446744073709551616 ≥ 9223372036854775808)) = true then (n : Int) % 18446744073709551616 - 18446744073709551616 else (n : Int) % 18446744073709551616) = n
    rw [e1, if_neg (by simp; omega)]
  have hfit := growslice_fits (need := n) (old := 0) (by omega) h47
  have k1 : ¬ (9223372036854775807 < (n : Int)) := by omega
  have k2 : ¬ (281474976710656 < Builtin.nextslicecap n 0 * i.bytes) := by omega
  have k3 : ¬ ((281474976710656 : Int) < (n : Int) * (i.bytes : Int)) := by
    have : ((n * i.bytes : Nat) : Int) ≤ 140737488355328 := by omega
    rw [Int.natCast_mul] at this
    omega
  have k4 : ¬ ((n : Int) < 0) := by omega
  have k5 : ¬ (n * i.size = 0) := by
    intro e0
    rcases Nat.mul_eq_zero.1 e0 with e1 | e1 <;> omega
  have hcap := grownCap_ge w n 0 e
  have hai : (asInt (Value.int k (n : Int))).run P w = .ok (n : Int) w := rfl
  have hr : (Builtin.append_ #[t, u] ty #[.slice none 0 0, .int k (n : Int)]).run P w = .ok (.slice (some ⟨w.heap.size, 0, none⟩) n (grownCap w n 0 e))
      (w.drew.alloc (.cells (Builtin.zeroCells z.cells n ++ Builtin.zeroCells z.cells (grownCap w n 0 e - n)) e)) := by
    simp [Builtin.append_, run_underlying_some ht, run_underlying_some hu, sizeOf, typeInfo, zeroValue, hi, hz, hn, k1, k2, k3, k4, k5, hw, Question.forced, run_firstCells_none, newRow, grownCap, hai]
  have hl := new_rows' (fr := (0, 0)) h.drew (c := Builtin.zeroCells z.cells n ++ Builtin.zeroCells z.cells (grownCap w n 0 e - n)) (e := e) (sz := i.size) (n := n) (cap := grownCap w n 0 e) (rs := List.replicate n zf)
    (fun i hi => by dsimp only; omega) hsz (fun r hr => by rw [List.eq_of_mem_replicate hr]; exact hzl) (by simp) hcap (by rw [Array.size_append, size_zeroCells, size_zeroCells, hzs, ← Nat.add_mul]; congr 1; omega) (fun j v hj => by
      have hz2 := zeroCells_rows hzc (by omega) n
      have hjl : j < (Builtin.zeroCells z.cells n).size := by
        have := (List.getElem?_eq_some_iff.1 hj).1
        rw [← hz2] at this
        simpa using this
      rw [Array.getElem?_append_left hjl, ← Array.getElem?_toList, hz2]
      exact hj) hK
  exact ⟨_, _, hr, hl⟩

theorem freeze_alloc (w : World) (c : Array Value) (e : TypeId) : (w.alloc (.cells c e)).freeze ⟨w.heap.size, c.size, none⟩ 1 = w.alloc (.cells c e (c.size, c.size + 1)) := by
  simp only [World.freeze, World.alloc, if_neg (show ¬ (1 = 0) by decide)]
  congr 1
  apply Array.ext'
  simp only [Array.toList_modify, Array.toList_push]
  refine List.ext_getElem? fun j => ?_
  rw [List.getElem?_modify]
  by_cases hj : w.heap.size = j
  · subst hj
    simp
  · simp only [if_neg hj]
    rcases Nat.lt_or_gt_of_ne hj with h | h
    · rw [List.getElem?_eq_none (by simp; omega), List.getElem?_eq_none (by simp; omega)]
      rfl
    · rw [List.getElem?_append_left (by simpa using h), List.getElem?_append_left (by simpa using h)]
      simp

theorem shape_alloc (w : World) (c : Array Value) (e : TypeId) (fr : Nat × Nat) : (w.alloc (.cells c e fr)).shape? w.heap.size = some (e, c.size) := by
  unfold World.shape?
  rw [heap_alloc_eq]

theorem vals_single {α : Type} (g : α → FC) : ∀ l : List α, vals (l.map fun b => [g b]) = l.map fun b => (g b).val
  | [] => rfl
  | b :: l => by
    have := vals_single g l
    simp only [vals, List.map_cons, List.flatten_cons, List.map_append] at this ⊢
    rw [this]
    rfl

theorem bytes_split {xs : List (List FC)} (h : ∀ y ∈ xs, ∃ m, y = [FC.int .u8 m]) : ∃ ns : List Int, xs = ns.map fun n => [FC.int .u8 n] := by
  induction xs with
  | nil => exact ⟨[], rfl⟩
  | cons y ys ih =>
    obtain ⟨ns, hns⟩ := ih fun y hy => h y (by simp [hy])
    obtain ⟨m, hm⟩ := h y (by simp)
    exact ⟨m :: ns, by simp [hns, hm]⟩

theorem strBytes_sound (h : Rel B R w0 L H w) {s d e : TypeId} {ds : TypeDesc} (hs : P.underlying s = some ds) (hd : P.underlying d = some (.slice e)) (he : P.underlying e = some (.int .u8)) {t : List UInt8} {K : AV → List Nat → List PO → Prop}
    (hK : K (cv (.slc H.length 0 t.length none true)) [] (H ++ [.rows false 1 (t.map fun b => [.int .u8 b.toNat])])) :
    ∃ r w', (convert s d (.string ⟨t.toArray⟩)).run P w = .ok r w' ∧ Left B R w0 H.length L K r w' := by
  have hcap := grownCap_ge w t.length 0 e
  have hlen : (t.map fun b => Value.int IntKind.u8 (b.toNat : Int)).length = t.length := by simp
  have hvals : vals (t.map fun b => [FC.int .u8 b.toNat]) = t.map fun b => Value.int .u8 (b.toNat : Int) := vals_single _ t
  have hl := new_rows' (fr := ((t.map fun b => Value.int IntKind.u8 (b.toNat : Int)).toArray ++ Array.replicate (grownCap w t.length 0 e - t.length) (Value.int .u8 0)).size |> fun n => (n, n + 1)) h.drew
    (c := (t.map fun b => Value.int IntKind.u8 (b.toNat : Int)).toArray ++ Array.replicate (grownCap w t.length 0 e - t.length) (Value.int .u8 0)) (e := e) (sz := 1) (n := t.length) (cap := grownCap w t.length 0 e) (rs := t.map fun b => [FC.int .u8 b.toNat])
    (fun i hi => by dsimp only; omega) (by decide) (fun r hr => by obtain ⟨b, _, rfl⟩ := List.mem_map.1 hr; rfl) (by simp) hcap (by simp; omega) (fun j v hj => by
      rw [hvals] at hj
      have : j < t.length := by have := (List.getElem?_eq_some_iff.1 hj).1; simpa using this
      rw [Array.getElem?_append_left (by simpa using this)]
      simpa using hj) hK
  refine ⟨_, _, ?_, hl⟩
  have hf := freeze_alloc w.drew ((t.map fun b => Value.int IntKind.u8 (b.toNat : Int)).toArray ++ Array.replicate (grownCap w t.length 0 e - t.length) (Value.int .u8 0)) e
  rw [← hf]
  have hsz : (ByteArray.mk t.toArray).size = t.length := rfl
  have hd0 : (ByteArray.mk t.toArray).data.map (fun b => Value.int .u8 (b.toNat : Int)) = (t.map fun b => Value.int IntKind.u8 (b.toNat : Int)).toArray := by simp
  have hb : (Conv.stringToBytes e ⟨t.toArray⟩).run P w = .ok (.slice (some ⟨w.drew.heap.size, 0, none⟩) t.length (grownCap w t.length 0 e))
      ((w.drew.alloc (.cells ((t.map fun b => Value.int IntKind.u8 (b.toNat : Int)).toArray ++ Array.replicate (grownCap w t.length 0 e - t.length) (Value.int .u8 0)) e)).freeze ⟨w.drew.heap.size, ((t.map fun b => Value.int IntKind.u8 (b.toNat : Int)).toArray ++ Array.replicate (grownCap w t.length 0 e - t.length) (Value.int .u8 0)).size, none⟩ 1) := by
    have hC : (ByteArray.mk t.toArray).data.map (fun b => Value.int .u8 (b.toNat : Int)) ++ Array.replicate (grownCap w t.length 0 e - t.length) (Value.int .u8 0) = (t.map fun b => Value.int IntKind.u8 (b.toNat : Int)).toArray ++ Array.replicate (grownCap w t.length 0 e - t.length) (Value.int .u8 0) := by rw [hd0]
    generalize (t.map fun b => Value.int IntKind.u8 (b.toNat : Int)).toArray ++ Array.replicate (grownCap w t.length 0 e - t.length) (Value.int .u8 0) = C at hC
    have hno : ∀ o, (newObj o : Sem Nat).run P w.drew = .ok w.drew.heap.size (w.drew.alloc o) := fun _ => rfl
    have hch : (choose (.appendCap t.length 0 e) : Sem Nat).run P w = .ok (grownCap w t.length 0 e) w.drew := by simp [Question.forced, grownCap]
    simp only [Conv.stringToBytes, Sem.run_bind, hsz, hch, Result.andThen_ok, newRow, hno, Sem.run_pure, markStringish, run_shape]
    rw [hC, shape_alloc w.drew C e (0, 0)]
    simp only [run_freeze, Result.andThen_ok]
  have : (convert s d (.string ⟨t.toArray⟩)).run P w = (Conv.stringToBytes e ⟨t.toArray⟩).run P w := by
    simp only [convert, Sem.run_bind, run_underlying_some hs, run_underlying_some hd, Result.andThen_ok]
    cases ds <;> simp only [run_underlying_some he, Result.andThen_ok]
  rw [this, hb]

theorem foldl_push (ns : List Int) : ∀ r : ByteArray, (ns.foldl (fun r n => r.push (UInt8.ofNat n.toNat)) r) = ⟨r.data ++ (ns.map fun n => UInt8.ofNat n.toNat).toArray⟩ := by
  induction ns with
  | nil => intro r; simp
  | cons n ns ih =>
    intro r
    rw [List.foldl_cons, ih]
    congr 1
    simp [ByteArray.push]

theorem bytesStr_sound (h : Rel B R w0 L H w) {s d e : TypeId} (hd : P.underlying d = some .string) (hs : P.underlying s = some (.slice e)) (he : P.underlying e = some (.int .u8)) (_hsz : szOf P e = 1) (hi : (P.info? e).isSome = true) {x : AV} {v : Value} (hx : VA H.length L x v)
    {k : List UInt8 → Prop} (hk : rowsOfA P H e x fun xs => (∀ y ∈ xs, ∃ m, y = [.int .u8 m]) ∧ k (xs.map byteOf)) :
    ∃ t, (convert s d v).run P w = .ok (.string ⟨t.toArray⟩) w ∧ k t := by
  obtain ⟨i, hi⟩ := Option.isSome_iff_exists.1 hi
  obtain ⟨xs, n, ⟨hall, hk⟩, hxn, _, hv⟩ := rowsOf_sound h hi hx hk
  refine ⟨_, ?_, hk⟩
  rcases hv with ⟨h0, rfl⟩ | ⟨a, c, rfl, hcell⟩
  · have hx0 : xs = [] := List.length_eq_zero_iff.1 (by omega)
    subst hx0
    simp [convert, run_underlying_some hs, run_underlying_some hd, run_underlying_some he, Conv.bytesToString]
    rfl
  · have hns := bytes_split hall
    obtain ⟨ns, rfl⟩ := hns
    have hvals : vals (ns.map fun n => [FC.int .u8 n]) = ns.map (Value.int .u8) := vals_single _ ns
    have hload : (loadCells a n).run P w = .ok (ns.map (Value.int .u8)).toArray w := by
      have hf := run_firstCells_some (P := P) w 1 n a n c (ns.map (Value.int .u8)) (by simpa using hxn) (by rw [← hvals]; exact hcell)
      simpa [Builtin.firstCells] using hf
    have hb := run_bytesToString (P := P) w a n c ns hload
    rw [foldl_push] at hb
    have : (convert s d (.slice (some a) n c)).run P w = (Conv.bytesToString (.slice (some a) n c)).run P w := by
      simp only [convert, Sem.run_bind, run_underlying_some hs, run_underlying_some hd, run_underlying_some he, Result.andThen_ok]
    rw [this, hb]
    congr 2
    simp only [List.map_map]
    show ByteArray.mk (#[] ++ _) = _
    rw [Array.empty_append]
    rfl

end
end Go.Mac
end

/- The machine of abstract values, part 4c: maps are what they are said to be. -/
section
namespace Go.Mac
open Go

section
variable {B R : Nat → Prop} {w0 : World} {N : Nat} {L : Nat → Loc} {H : List PO} {P : Program} {w : World}

theorem keyT_spec {t : TypeId} {n : Nat} (h : keyT P t = some n) : (n = 0 ∧ P.underlying t = some (.int .i64)) ∨
    (n = 2 ∧ ∃ e, P.underlying t = some (.array 2 e) ∧ P.underlying e = some (.int .i64) ∧ (P.info? e).isSome = true ∧ szOf P e = 1) := by
  unfold keyT at h
  split at h
  · rename_i hu
    exact .inl ⟨(Option.some.inj h).symm, hu⟩
  · rename_i m e hu
    split at h
    · rename_i he
      simp only [cond_eq_ite, Bool.and_eq_true] at h
      split at h
      · rename_i hc
        obtain rfl : m = 2 := Nat.eq_of_beq_eq_true hc.1
        exact .inr ⟨(Option.some.inj h).symm, e, hu, he, hc.2.1, Nat.eq_of_beq_eq_true hc.2.2⟩
      · cases h
    · cases h
  · cases h

/-- What is known of a kind of keys. -/
structure KeyOk (P : Program) (k : TypeId) (kn : Nat) : Prop where
  check : ∀ (w : World) (l : List Int), l.length = keyLen kn → ∀ em, (Instr.checkKey em 10000 k (keyV kn l)).run P w = .ok () w
  find : ∀ (w : World) (l : List Int), l.length = keyLen kn → ∀ (vb : Bool) (es : List (List Int × Int × Nat)), (∀ e ∈ es, e.1.length = keyLen kn) →
    (mpFind l es = none ∧ (Instr.findKey k (keyV kn l) (es.map (entV kn vb))).run P w = .ok none w ∧ mpDel l es = es) ∨
    ∃ j e, es[j]? = some e ∧ e.1 = l ∧ mpFind l es = some e.2 ∧ (Instr.findKey k (keyV kn l) (es.map (entV kn vb))).run P w = .ok (some (j, (elmF vb e.2.1).val)) w ∧
      (∀ v, mpSet l v es = es.set j (l, v, e.2.2)) ∧ mpDel l es = es.eraseIdx j
  stays : ∀ (w : World) (l : List Int), l.length = keyLen kn → (Instr.keyThatStays (keyV kn l) (keyV kn l)).run P w = .ok (keyV kn l) w

theorem elmT_spec {t : TypeId} {b : Bool} (h : elmT P t = some b) : zval P t = .p (.c (.f (elmF b 0))) := by
  unfold elmT at h
  split at h
  · split at h
    · rename_i n hz
      simp only [cond_eq_ite, decide_eq_true_eq] at h
      split at h
      · rename_i hn
        subst hn
        obtain rfl := Option.some.inj h
        exact hz
      · cases h
    · cases h
  · split at h
    · rename_i b' hz
      cases b' with
      | true => cases h
      | false =>
        obtain rfl := Option.some.inj h
        exact hz
    · cases h
  · cases h

theorem mapT_spec {t : TypeId} {kn : Nat} {vb : Bool} {K : Prop} (h : mapT P t kn vb K) : ∃ k e, P.underlying t = some (.map k e) ∧ keyT P k = some kn ∧ zval P e = .p (.c (.f (elmF vb 0))) ∧ K := by
  unfold mapT at h
  split at h <;> try exact h.elim
  rename_i k e hu
  split at h <;> try exact h.elim
  rename_i n b hk he
  simp only [cond_eq_ite, Bool.and_eq_true, beq_iff_eq] at h
  split at h <;> try exact h.elim
  rename_i hc
  obtain ⟨h1, h2⟩ := hc
  have h1 : n = kn := Nat.eq_of_beq_eq_true h1
  subst h1; subst h2
  exact ⟨k, e, hu, hk, elmT_spec he, h⟩

theorem intsOf_spec : ∀ {cs : List CV} {l : List Int} {vs : List Value}, intsOf cs = some l → VCs N L cs vs → vs = l.map (Value.int .i64)
  | [], _, _, h, hv => by
    obtain rfl := Option.some.inj h
    simpa [VCs] using hv
  | c :: cs, l, vs, h, hv => by
    obtain ⟨y, ys, rfl, h2, h3⟩ := hv
    unfold intsOf at h
    split at h
    · rename_i heq
      cases heq
    · rename_i n xs heq
      cases heq
      split at h
      · rename_i l' hl'
        obtain rfl := Option.some.inj h
        obtain rfl : y = .int .i64 n := h2
        rw [intsOf_spec hl' h3]
        rfl
      · cases h
    · cases h

theorem keyK_spec {kn : Nat} {x : AV} {v : Value} (hx : VA N L x v) {K : List Int → Prop} (h : keyK kn x K) : ∃ l, v = keyV kn l ∧ l.length = keyLen kn ∧ K l := by
  unfold keyK at h
  split at h
  · rename_i n
    obtain rfl : v = _ := hx
    exact ⟨[n], rfl, rfl, h⟩
  · rename_i m cs
    split at h <;> try exact h.elim
    rename_i l hl
    simp only [cond_eq_ite] at h
    split at h <;> try exact h.elim
    rename_i hc
    obtain ⟨vs, rfl, h2⟩ := hx
    exact ⟨l, by rw [intsOf_spec hl h2]; rfl, lenIs_spec _ _ hc, h⟩
  · exact h.elim

theorem elmK_spec {vb : Bool} {x : AV} {v : Value} (hx : VA N L x v) {K : Int → Prop} (h : elmK vb x K) : ∃ n, v = (elmF vb n).val ∧ K n := by
  unfold elmK at h
  split at h <;> try exact h.elim
  · rename_i n
    obtain rfl : v = _ := hx
    exact ⟨n, rfl, h⟩
  · rename_i b
    obtain rfl : v = _ := hx
    refine ⟨_, ?_, h⟩
    cases b <;> rfl

/-- What is found at a key, and where. -/
theorem find_spec (n : Int) (vb : Bool) : ∀ (es : List (List Int × Int × Nat)) (i : Nat), (∀ e ∈ es, e.1.length = 1) →
    (mpFind [n] es = none ∧ Instr.findNow (.int .i64) (.int .i64 n) (es.map (entV 0 vb)) i = some none ∧ mpDel [n] es = es) ∨
    ∃ j e, es[j]? = some e ∧ e.1 = [n] ∧ mpFind [n] es = some e.2 ∧ Instr.findNow (.int .i64) (.int .i64 n) (es.map (entV 0 vb)) i = some (some (i + j, (elmF vb e.2.1).val)) ∧
      (∀ v, mpSet [n] v es = es.set j ([n], v, e.2.2)) ∧ mpDel [n] es = es.eraseIdx j
  | [], i, _ => .inl ⟨rfl, rfl, rfl⟩
  | e :: es, i, h => by
    obtain ⟨k, v, b⟩ := e
    obtain ⟨m, rfl⟩ : ∃ m, k = [m] := by
      have := h _ (List.mem_cons_self ..)
      match k, this with
      | [m], _ => exact ⟨m, rfl⟩
    have hs : Instr.sameNow (.int .i64) (.int .i64 n) (.int .i64 m) = some (n == m) := rfl
    by_cases hm : m = n
    · subst hm
      refine .inr ⟨0, _, rfl, rfl, if_pos rfl, ?_, fun v => if_pos rfl, if_pos rfl⟩
      rw [List.map_cons, Instr.findNow]
      show (match Instr.sameNow (.int .i64) (.int .i64 m) (.int .i64 m) with | some true => _ | some false => _ | none => _) = _
      rw [hs, show (m == m) = true by simp]
      rfl
    · have hne : ¬ ([m] : List Int) = [n] := fun h => hm (by simpa using h)
      have hf : ∀ rest, Instr.findNow (.int .i64) (.int .i64 n) (entV 0 vb ([m], v, b) :: rest) i = Instr.findNow (.int .i64) (.int .i64 n) rest (i + 1) := fun rest => by
        rw [Instr.findNow]
        show (match Instr.sameNow (.int .i64) (.int .i64 n) (.int .i64 m) with | some true => _ | some false => _ | none => _) = _
        rw [hs, show (n == m) = false by simpa using Ne.symm hm]
      rw [List.map_cons, hf]
      rcases find_spec n vb es (i + 1) (fun e he => h e (List.mem_cons_of_mem _ he)) with ⟨h1, h2, h3⟩ | ⟨j, e, h1, h2, h3, h4, h5, h6⟩
      · refine .inl ⟨?_, h2, ?_⟩
        · rw [mpFind, if_neg hne]; exact h1
        · rw [mpDel, if_neg hne, h3]
      · refine .inr ⟨j + 1, e, by simpa using h1, h2, ?_, by rw [h4]; congr 3; omega, fun v' => ?_, ?_⟩
        · rw [mpFind, if_neg hne]; exact h3
        · rw [mpSet, if_neg hne, h5]; rfl
        · rw [mpDel, if_neg hne, h6]; rfl

theorem keyOk_int {k : TypeId} (hk : P.underlying k = some (.int .i64)) : KeyOk P k 0 := by
  have one : ∀ l : List Int, l.length = keyLen 0 → ∃ n, l = [n] := fun l hl => match l, hl with | [n], _ => ⟨n, rfl⟩
  refine ⟨fun w l hl em => ?_, fun w l hl vb es hes => ?_, fun w l hl => ?_⟩
  · obtain ⟨n, rfl⟩ := one l hl
    have hkey : MapKept.IsKey (.int .i64) (.int .i64 n) := by simp [MapKept.IsKey]
    exact MapKept.run_checkKey (P := P) (w := w) hk hkey em 9999
  · obtain ⟨n, rfl⟩ := one l hl
    rcases find_spec n vb es 0 hes with ⟨h1, h2, h3⟩ | ⟨j, e, h1, h2, h3, h4, h5, h6⟩
    · exact .inl ⟨h1, MapKept.run_findKey (P := P) (w := w) hk h2, h3⟩
    · refine .inr ⟨j, e, h1, h2, h3, ?_, h5, h6⟩
      have := MapKept.run_findKey (P := P) (w := w) hk h4
      rwa [Nat.zero_add] at this
  · obtain ⟨n, rfl⟩ := one l hl
    have hkey : MapKept.IsKey (.int .i64) (.int .i64 n) := by simp [MapKept.IsKey]
    exact MapKept.run_keyThatStays (P := P) (w := w) hkey

/-- Asked one behind the other. -/
theorem ask_spec {k : TypeId} {kn : Nat} {l : List Int} (w : World) (heq : ∀ l' : List Int, l'.length = keyLen kn → (Op.equal k (keyV kn l) (keyV kn l')).run P w = .ok (decide (l' = l)) w) (vb : Bool) : ∀ (es : List (List Int × Int × Nat)) (i : Nat), (∀ e ∈ es, e.1.length = keyLen kn) →
    (mpFind l es = none ∧ (Instr.findAsking k (keyV kn l) (es.map (entV kn vb)) i).run P w = .ok none w ∧ mpDel l es = es) ∨
    ∃ j e, es[j]? = some e ∧ e.1 = l ∧ mpFind l es = some e.2 ∧ (Instr.findAsking k (keyV kn l) (es.map (entV kn vb)) i).run P w = .ok (some (i + j, (elmF vb e.2.1).val)) w ∧
      (∀ v, mpSet l v es = es.set j (l, v, e.2.2)) ∧ mpDel l es = es.eraseIdx j
  | [], i, _ => .inl ⟨rfl, rfl, rfl⟩
  | e :: es, i, h => by
    have h0 := heq e.1 (h e (List.mem_cons_self ..))
    by_cases he : e.1 = l
    · rw [decide_eq_true he] at h0
      refine .inr ⟨0, e, rfl, he, if_pos he, ?_, fun v => if_pos he, if_pos he⟩
      simp only [List.map_cons, Instr.findAsking, Sem.run_bind, entV, h0, Result.andThen_ok, if_true, Sem.run_pure]
      rfl
    · rw [decide_eq_false he] at h0
      have hf : (Instr.findAsking k (keyV kn l) ((e :: es).map (entV kn vb)) i).run P w = (Instr.findAsking k (keyV kn l) (es.map (entV kn vb)) (i + 1)).run P w := by
        simp only [List.map_cons, Instr.findAsking, Sem.run_bind]
        rw [show (entV kn vb e).key = keyV kn e.1 from rfl, h0]
        simp
      rw [hf]
      rcases ask_spec w heq vb es (i + 1) (fun e he => h e (List.mem_cons_of_mem _ he)) with ⟨h1, h2, h3⟩ | ⟨j, e', h1, h2, h3, h4, h5, h6⟩
      · refine .inl ⟨?_, h2, ?_⟩
        · rw [mpFind, if_neg he]; exact h1
        · rw [mpDel, if_neg he, h3]
      · refine .inr ⟨j + 1, e', by simpa using h1, h2, ?_, by rw [h4]; congr 3; omega, fun v' => ?_, ?_⟩
        · rw [mpFind, if_neg he]; exact h3
        · rw [mpSet, if_neg he, h5]; rfl
        · rw [mpDel, if_neg he, h6]; rfl

theorem keyOk_two {k e : TypeId} (hk : P.underlying k = some (.array 2 e)) (he : P.underlying e = some (.int .i64)) (hi : (P.info? e).isSome = true) (hz : szOf P e = 1) : KeyOk P k 2 := by
  have two : ∀ l : List Int, l.length = keyLen 2 → ∃ a b, l = [a, b] := fun l hl => match l, hl with | [a, b], _ => ⟨a, b, rfl⟩
  obtain ⟨i, hi⟩ := Option.isSome_iff_exists.1 hi
  have hz1 : i.size = 1 := by simpa [szOf, hi] using hz
  have hagg : aggT P e = some false := by simp [aggT, he]
  have hpart0 : ∀ (w : World) (a b : Int), (part e #[.int .i64 a, .int .i64 b] 0).run P w = .ok (.int .i64 a) w := fun w a b => by
    simp [part, run_isAgg_some hagg]
  have hpart1 : ∀ (w : World) (a b : Int), (part e #[.int .i64 a, .int .i64 b] 1).run P w = .ok (.int .i64 b) w := fun w a b => by
    simp [part, run_isAgg_some hagg]
  have hso : ∀ w : World, (sizeOf e).run P w = .ok 1 w := fun w => by simp [sizeOf, typeInfo, hi, hz1]
  have hco : P.cellsOf e = 1 := by simp [Program.cellsOf, hi, hz1]
  refine ⟨fun w l hl em => ?_, fun w l hl vb es hes => ?_, fun w l hl => ?_⟩
  · obtain ⟨a, b, rfl⟩ := two l hl
    have hc : ∀ (n : Nat) (w : World) (x : Int), (Instr.checkKey em (n + 1) e (.int .i64 x)).run P w = .ok () w := fun n w x => by
      unfold Instr.checkKey
      simp only [Sem.run_bind, run_underlying_some he, Result.andThen_ok]
      rfl
    have ha : ∀ (n : Nat), (Instr.checkKey em (n + 2) k (.agg #[.int .i64 a, .int .i64 b])).run P w = .ok () w := fun n => by
      unfold Instr.checkKey
      simp only [Sem.run_bind, run_underlying_some hk, Result.andThen_ok]
      simp [Std.Legacy.Range.forIn_eq_forIn_range', Std.Legacy.Range.size, List.range', hso, hpart0, hpart1, hc]
    exact ha 9998
  · obtain ⟨a, b, rfl⟩ := two l hl
    have heq : ∀ l' : List Int, l'.length = keyLen 2 → (Op.equal k (keyV 2 [a, b]) (keyV 2 l')).run P w = .ok (decide (l' = [a, b])) w := fun l' hl' => by
      obtain ⟨c, d, rfl⟩ := two l' hl'
      show (Op.equalIn (9999 + 1) k (.agg #[.int .i64 a, .int .i64 b]) (.agg #[.int .i64 c, .int .i64 d])).run P w = _
      rw [run_equalIn_array w 9999 _ _ hk hi, hco]
      have h1 : ∀ x y : Int, (Op.equalIn 9999 e (.int .i64 x) (.int .i64 y)).run P w = .ok (x == y) w := fun x y => run_equalIn_int w 9998 e _ _ x y he
      simp only [List.range, List.range.loop, Op.eqItems, Nat.zero_mul, Nat.one_mul, Sem.run_bind, hpart0, Result.andThen_ok, h1]
      by_cases e1 : a = c
      · subst e1
        by_cases e2 : b = d
        · subst e2; simp [Sem.run_bind, hpart1, h1]
        · simp [Sem.run_bind, hpart1, h1, e2, Ne.symm e2]
      · simp [e1, Ne.symm e1]
    have := ask_spec w heq vb es 0 hes
    simp only [Nat.zero_add] at this
    rw [run_findKey_eq w (by rw [hk])]
    exact this
  · obtain ⟨a, b, rfl⟩ := two l hl
    show (Instr.keyThatStays (.agg #[.int .i64 a, .int .i64 b]) (.agg #[.int .i64 a, .int .i64 b])).run P w = _
    simp [Instr.keyThatStays, Instr.sameBits]
    rfl

theorem keyOk {k : TypeId} {kn : Nat} (h : keyT P k = some kn) : KeyOk P k kn := by
  rcases keyT_spec h with ⟨rfl, h'⟩ | ⟨rfl, e, h1, h2, h3, h4⟩
  · exact keyOk_int h'
  · exact keyOk_two h1 h2 h3 h4

/-- A map's block is laid anew. -/
theorem mp_set (h : Rel B R w0 L H w) {r : Nat} {kn : Nat} {vb : Bool} {es es' : List (List Int × Int × Nat)} {clk clk' : Nat} (hr : H[r]? = some (.mp kn vb es clk)) {xs : Array MapEntry} (hx : xs.toList = es'.map (entV kn vb)) (hl : ∀ e ∈ es', e.1.length = keyLen kn) :
    Rel B R w0 L (H.set r (.mp kn vb es' clk')) { w with heap := w.heap.setIfInBounds (L r).h.blk (.map xs clk') } := by
  obtain ⟨xs0, hb, _, _⟩ := h.obj r _ hr
  obtain ⟨hB, hlt, hu⟩ := h.own r _ (L r).h.blk hr rfl
  obtain ⟨k1, k2⟩ := MapKept.heap_set (o' := .map xs clk') hb
  refine h.put (M := []) r _ (by simp) (List.getElem?_set_self (List.getElem?_eq_some_iff.1 hr).1) (fun j hj o1 ho1 => ?_) (Agree.refl _ _ _) (fun _ _ => rfl) ⟨rfl, rfl, rfl, by simp, fun q hq => k2 q fun e => hB (by rw [← e]; exact hq)⟩ (fun q hq => ?_) (fun q hq => ?_) (fun q hq => hq.elim) ⟨xs, k1, hx, hl⟩
  · rw [List.getElem?_set_ne (Ne.symm hj)] at ho1
    exact ⟨o1, ho1, (killO_nil o1).symm⟩
  · by_cases hqb : q = (L r).h.blk
    · exact .inr ⟨_, hr, hqb⟩
    · exact .inl (k2 q hqb)
  · obtain rfl : q = (L r).h.blk := hq
    exact ⟨hB, by simpa using hlt, .inr ⟨_, hr, rfl⟩⟩

theorem makeMap_sound (h : Rel B R w0 L H w) {t : TypeId} {r : Option Operand} {f : Operand → Value} {K : AV → List PO → Prop} (hs : makeMapA H P t r K) :
    ∃ u w' L' y H', (Instr.makeMap t (r.map f)).run P w = .ok u w' ∧ Agree H.length [] L L' ∧ H.length ≤ H'.length ∧ Rel B R w0 L' H' w' ∧ VA H'.length L' y u ∧ K y H' := by
  unfold makeMapA at hs
  split at hs <;> try exact hs.elim
  split at hs <;> try exact hs.elim
  rename_i k e hu
  split at hs <;> try exact hs.elim
  rename_i n b hk he
  have hK := snocK_spec hs
  have hag := upd_agree L ⟨⟨w.heap.size, 0, 0, 0⟩, fun _ => ⟨0, 0, 0, 0⟩⟩ H.length []
  refine ⟨.map (some w.heap.size), w.alloc (.map #[] 0), upd L H.length ⟨⟨w.heap.size, 0, 0, 0⟩, fun _ => ⟨0, 0, 0, 0⟩⟩, _, _, ?_, hag, ?_, ?_, ?_, hK⟩
  · simp [Instr.makeMap, Result.andThen]
  · simp
  · refine h.put (M := []) H.length (.mp n b [] 0) (by simp) (by simp) (fun j hj o1 ho1 => ?_) hag (fun j hj => upd_ne hj) ((Bel.refl B w).alloc h.size _)
      (fun b hb => .inl (heap_alloc_lt _ _ _ hb)) (fun b hb => ?_) (fun b (hb : False) => hb.elim) ?_
    · rcases Nat.lt_or_gt_of_ne hj with hl | hg
      · rw [List.getElem?_append_left hl] at ho1
        exact ⟨o1, ho1, (killO_nil o1).symm⟩
      · rw [List.getElem?_eq_none (by simp; omega)] at ho1
        cases ho1
    · rw [upd_self] at hb
      obtain rfl : b = w.heap.size := hb
      exact ⟨fun hb => Nat.lt_irrefl _ (h.size _ hb), by simp, .inl (Nat.le_refl _)⟩
    · rw [upd_self]
      exact ⟨#[], heap_alloc_eq _ _, rfl, fun e he => by cases he⟩
  · refine ⟨by simp, ?_⟩
    rw [upd_self]

theorem lookup_sound (h : Rel B R w0 L H w) {t : TypeId} {p q : AV} {v u : Value} {ok : Bool} (hp : VA H.length L p v) (hq : VA H.length L q u) {K : AV → Prop} (hs : lookupA P H t p q ok K) :
    ∃ r s, (Instr.lookup t v u ok).run P w = .ok s w ∧ VA H.length L r s ∧ K r := by
  unfold lookupA at hs
  split at hs <;> try exact hs.elim
  rename_i r
  obtain ⟨hr, rfl⟩ := hp
  rw [nth_eq] at hs
  split at hs <;> try exact hs.elim
  rename_i kn vb es clk hes
  obtain ⟨k, e, hu, hk, hz, hs⟩ := mapT_spec hs
  obtain ⟨n, rfl, hnl, hs⟩ := keyK_spec hq hs
  have hK := keyOk hk
  obtain ⟨xs, hb, hx, hl⟩ := h.obj r _ hes
  obtain ⟨zv, hz1, hz2⟩ := zval_sound (N := H.length) (L := L) (w := w) hz
  obtain rfl : zv = (elmF vb 0).val := hz2
  have hrun : ∀ (a : Option (Nat × Value)), (Instr.findKey k (keyV kn n) xs.toList).run P w = .ok a w →
      (Instr.lookup t (.map (some (L r).h.blk)) (keyV kn n) ok).run P w = .ok (if ok then .tuple #[(a.map (·.2)).getD (elmF vb 0).val, .bool a.isSome] else (a.map (·.2)).getD (elmF vb 0).val) w := fun a h2 => by
    have h1 := hK.check w n hnl xs.isEmpty
    cases a with
    | none => simp [Instr.lookup, run_underlying_some hu, MapKept.run_getObj_map hb, h1, h2, hz1]
    | some b => simp [Instr.lookup, run_underlying_some hu, MapKept.run_getObj_map hb, h1, h2]
  rw [hx] at hrun
  rcases hK.find w n hnl vb es hl with ⟨h1, h2, _⟩ | ⟨j, e', h1, h0, h2, h3, _⟩
  · have hg : mpGet es n = 0 := by rw [mpGet, h1]; rfl
    have hh : mpHas es n = false := by rw [mpHas, h1]; rfl
    rw [hg, hh] at hs
    cases ok with
    | true => exact ⟨.tup [.c (.f (elmF vb 0)), .c (.f (.bool false))], _, hrun _ h2, ⟨_, rfl, _, _, rfl, rfl, _, _, rfl, rfl, rfl⟩, hs⟩
    | false => exact ⟨.p (.c (.f (elmF vb 0))), _, hrun _ h2, rfl, hs⟩
  · have hg : mpGet es n = e'.2.1 := by rw [mpGet, h2]; rfl
    have hh : mpHas es n = true := by rw [mpHas, h2]; rfl
    rw [hg, hh] at hs
    cases ok with
    | true => exact ⟨.tup [.c (.f (elmF vb e'.2.1)), .c (.f (.bool true))], _, hrun _ h3, ⟨_, rfl, _, _, rfl, rfl, _, _, rfl, rfl, rfl⟩, hs⟩
    | false => exact ⟨.p (.c (.f (elmF vb e'.2.1))), _, hrun _ h3, rfl, hs⟩

theorem mpLen_set {es : List (List Int × Int × Nat)} {j : Nat} {x : List Int × Int × Nat} {m : Nat} (hl : ∀ e ∈ es, e.1.length = m) (hx : x.1.length = m) : ∀ e ∈ es.set j x, e.1.length = m := fun e he => by
  rcases List.mem_or_eq_of_mem_set he with he | rfl
  · exact hl e he
  · exact hx

theorem mpLen_snoc {es : List (List Int × Int × Nat)} {x : List Int × Int × Nat} {m : Nat} (hl : ∀ e ∈ es, e.1.length = m) (hx : x.1.length = m) : ∀ e ∈ es ++ [x], e.1.length = m := fun e he => by
  rcases List.mem_append.1 he with he | he
  · exact hl e he
  · rw [List.mem_singleton.1 he]; exact hx

theorem entV_set {kn : Nat} {vb : Bool} {xs : Array MapEntry} {es : List (List Int × Int × Nat)} {j : Nat} {e : List Int × Int × Nat} {f : MapEntry → MapEntry} {y : List Int × Int × Nat} (hx : xs.toList = es.map (entV kn vb)) (he : es[j]? = some e) (hf : f (entV kn vb e) = entV kn vb y) : (xs.modify j f).toList = (es.set j y).map (entV kn vb) := by
  refine List.ext_getElem? fun i => ?_
  rw [Array.getElem?_toList, Array.getElem?_modify, List.getElem?_map, List.getElem?_set]
  have hi : xs[i]? = (es[i]?).map (entV kn vb) := by rw [← Array.getElem?_toList, hx, List.getElem?_map]
  by_cases hji : j = i
  · subst hji
    rw [if_pos rfl, if_pos rfl, if_pos (List.getElem?_eq_some_iff.1 he).1, hi, he]
    simp [hf]
  · rw [if_neg hji, if_neg hji, hi]

theorem update_sound (h : Rel B R w0 L H w) {t : TypeId} {p q y : AV} {v u z : Value} (hp : VA H.length L p v) (hq : VA H.length L q u) (hy : VA H.length L y z) {K : List PO → Prop} (hs : updateA P H t p q y K) :
    ∃ w' H', (Instr.mapUpdate t v u z).run P w = .ok () w' ∧ H'.length = H.length ∧ Rel B R w0 L H' w' ∧ K H' := by
  unfold updateA at hs
  split at hs <;> try exact hs.elim
  rename_i r
  obtain ⟨hr, rfl⟩ := hp
  rw [nth_eq] at hs
  split at hs <;> try exact hs.elim
  rename_i kn vb es clk hes
  obtain ⟨k, e, hu, hk, hz, hs⟩ := mapT_spec hs
  obtain ⟨n, rfl, hnl, hs⟩ := keyK_spec hq hs
  have hK := keyOk hk
  obtain ⟨m, rfl, hs⟩ := elmK_spec hy hs
  rw [setK_eq] at hs
  obtain ⟨xs, hb, hx, hl⟩ := h.obj r _ hes
  have c1 := hK.check w n hnl false
  rcases hK.find w n hnl vb es hl with ⟨h1, h2, _⟩ | ⟨j, e', h1, h0, h2, h3, h4, _⟩
  · have hh : mpHas es n = false := by rw [mpHas, h1]; rfl
    rw [mpPut, mpClk, hh, if_neg (by decide), if_neg (by decide)] at hs
    rw [← hx] at h2
    have c2 := h2
    refine ⟨_, _, ?_, by simp, mp_set h hes (xs := xs.push ⟨keyV kn n, (elmF vb m).val, clk⟩) (by simp [hx]; rfl) (mpLen_snoc hl hnl), hs⟩
    simp [Instr.mapUpdate, run_underlying_some hu, MapKept.run_getObj_map hb, c1, c2, MapKept.run_setObj_map _ hb]
  · have hh : mpHas es n = true := by rw [mpHas, h2]; rfl
    rw [mpPut, mpClk, hh, if_pos rfl, if_pos rfl, h4] at hs
    rw [← hx] at h3
    have c2 := h3
    have c3 := hK.stays w n hnl
    have hxj : xs[j]? = some (entV kn vb e') := by rw [← Array.getElem?_toList, hx, List.getElem?_map, h1]; rfl
    have hkk : ((xs[j]?).map (·.key)).getD (keyV kn n) = keyV kn n := by
      rw [hxj]
      show keyV kn e'.1 = _
      rw [h0]
    refine ⟨_, _, ?_, by simp, mp_set h hes (xs := xs.modify j fun e => { e with key := keyV kn n, val := (elmF vb m).val }) (entV_set hx h1 rfl) (mpLen_set hl hnl), hs⟩
    simp only [Instr.mapUpdate, Sem.run_bind, run_underlying_some hu, Result.andThen_ok, MapKept.run_getObj_map hb, c1, c2, hkk, c3, MapKept.run_setObj_map _ hb]

theorem entry_sound (h : Rel B R w0 L H w) {t : TypeId} {p q : AV} {v u : Value} (hp : VA H.length L p v) (hq : VA H.length L q u) {K : AV → List PO → Prop} (hs : entryA P H t p q K) :
    ∃ w' H' y z, (Instr.mapEntry t v u).run P w = .ok z w' ∧ H'.length = H.length ∧ Rel B R w0 L H' w' ∧ VA H.length L y z ∧ K y H' := by
  unfold entryA at hs
  split at hs <;> try exact hs.elim
  rename_i r
  obtain ⟨hr, rfl⟩ := hp
  rw [nth_eq] at hs
  split at hs <;> try exact hs.elim
  rename_i kn vb es clk hes
  obtain ⟨k, e, hu, hk, hz, hs⟩ := mapT_spec hs
  obtain ⟨n, rfl, hnl, hs⟩ := keyK_spec hq hs
  have hK := keyOk hk
  rw [setK_eq] at hs
  obtain ⟨xs, hb, hx, hl⟩ := h.obj r _ hes
  obtain ⟨zv, hz1, hz2⟩ := zval_sound (N := H.length) (L := L) (w := w) hz
  obtain rfl : zv = (elmF vb 0).val := hz2
  have c1 := hK.check w n hnl false
  rcases hK.find w n hnl vb es hl with ⟨h1, h2, _⟩ | ⟨j, e', h1, h0, h2, h3, h4, _⟩
  · have hh : mpHas es n = false := by rw [mpHas, h1]; rfl
    have hg : mpGet es n = 0 := by rw [mpGet, h1]; rfl
    have hbn : mpBorn es n clk = clk := by rw [mpBorn, h1]; rfl
    rw [mpEnt, mpClk, hh, if_neg (by decide), if_neg (by decide), hg, hbn] at hs
    rw [← hx] at h2
    have c2 := h2
    refine ⟨_, _, .tup [.c (.f (elmF vb 0)), .c (.f (.int .i64 clk))], .tuple #[(elmF vb 0).val, goInt clk], ?_, by simp, mp_set h hes (xs := xs.push ⟨keyV kn n, (elmF vb 0).val, clk⟩) (by simp [hx]; rfl) (mpLen_snoc hl hnl), ⟨_, rfl, _, _, rfl, rfl, _, _, rfl, rfl, rfl⟩, hs⟩
    simp [Instr.mapEntry, run_underlying_some hu, MapKept.run_getObj_map hb, c1, c2, hz1, MapKept.run_setObj_map _ hb]
  · have hh : mpHas es n = true := by rw [mpHas, h2]; rfl
    have hg : mpGet es n = e'.2.1 := by rw [mpGet, h2]; rfl
    have hbn : mpBorn es n clk = e'.2.2 := by rw [mpBorn, h2]; rfl
    rw [mpEnt, mpClk, hh, if_pos rfl, if_pos rfl, hg, hbn] at hs
    rw [← hx] at h3
    have c2 := h3
    have c3 := hK.stays w n hnl
    have hxj : xs[j]? = some (entV kn vb e') := by rw [← Array.getElem?_toList, hx, List.getElem?_map, h1]; rfl
    have hkk : ((xs[j]?).map (·.key)).getD (keyV kn n) = keyV kn n := by
      rw [hxj]
      show keyV kn e'.1 = _
      rw [h0]
    have hset : es.set j e' = es := List.ext_getElem? fun i => by
      rw [List.getElem?_set]
      split
      · rename_i hji
        subst hji
        rw [if_pos (List.getElem?_eq_some_iff.1 h1).1, h1]
      · rfl
    refine ⟨_, _, .tup [.c (.f (elmF vb e'.2.1)), .c (.f (.int .i64 e'.2.2))], .tuple #[(elmF vb e'.2.1).val, goInt e'.2.2], ?_, by simp, mp_set h hes (xs := xs.modify j fun e => { e with key := keyV kn n }) ((entV_set (y := e') hx h1 (by rw [entV, h0])).trans (by rw [hset])) hl, ⟨_, rfl, _, _, rfl, rfl, _, _, rfl, rfl, rfl⟩, hs⟩
    simp only [Instr.mapEntry, Sem.run_bind, run_underlying_some hu, Result.andThen_ok, MapKept.run_getObj_map hb, c1, c2, hkk, c3, MapKept.run_setObj_map _ hb, Sem.run_pure]
    rw [hxj]
    rfl

theorem at_spec {kn : Nat} {vb : Bool} (b : Nat) (v : Int) : ∀ (es : List (List Int × Int × Nat)), (es.any fun e => e.2.2 == b) = true → ∃ j e, es[j]? = some e ∧ e.2.2 = b ∧ (es.map (entV kn vb)).findIdx? (fun e => (e.born : Int) == (b : Int)) = some j ∧ mpAt b v es = es.set j (e.1, v, b)
  | [], h => by cases h
  | e :: es, h => by
    by_cases hb : e.2.2 = b
    · refine ⟨0, e, rfl, hb, ?_, if_pos hb⟩
      rw [List.map_cons, List.findIdx?_cons, if_pos (by show ((e.2.2 : Nat) : Int) == (b : Int); simp [hb])]
    · rw [List.any_cons, Bool.or_eq_true] at h
      rcases h with h | h
      · exact absurd (by simpa using h) hb
      · obtain ⟨j, e', h1, h2, h3, h4⟩ := at_spec (kn := kn) (vb := vb) b v es h
        refine ⟨j + 1, e', by simpa using h1, h2, ?_, by rw [mpAt, if_neg hb, h4]; rfl⟩
        rw [List.map_cons, List.findIdx?_cons, if_neg ?_, h3]
        · rfl
        · show ¬ (((e.2.2 : Nat) : Int) == (b : Int)) = true
          simp; omega

theorem entryStore_sound (h : Rel B R w0 L H w) {t : TypeId} {p q y : AV} {v u z : Value} (hp : VA H.length L p v) (hq : VA H.length L q u) (hy : VA H.length L y z) {K : List PO → Prop} (hs : entryStoreA H p q y K) :
    ∃ w' H', (Instr.entryStore t v u z).run P w = .ok () w' ∧ H'.length = H.length ∧ Rel B R w0 L H' w' ∧ K H' := by
  unfold entryStoreA at hs
  split at hs <;> try exact hs.elim
  rename_i r kd b
  obtain ⟨hr, rfl⟩ := hp
  obtain rfl : u = .int kd b := hq
  rw [nth_eq] at hs
  split at hs <;> try exact hs.elim
  rename_i kn vb es clk hes
  obtain ⟨n, rfl, hany, hs⟩ := hs
  obtain ⟨m, rfl, hs⟩ := elmK_spec hy hs
  rw [setK_eq] at hs
  obtain ⟨xs, hb, hx, hl⟩ := h.obj r _ hes
  obtain ⟨j, e', h1, h2, h3, h4⟩ := at_spec (kn := kn) (vb := vb) n m es hany
  rw [h4] at hs
  have hfi : xs.findIdx? (fun e => (e.born : Int) == (n : Int)) = some j := by rw [← h3, ← hx]; cases xs; simp
  have hj := hl e' (List.mem_of_getElem? h1)
  refine ⟨_, _, ?_, by simp, mp_set h hes (xs := xs.modify j fun e => { e with val := (elmF vb m).val }) (entV_set (y := (e'.1, m, n)) hx h1 (by rw [← h2]; rfl)) (mpLen_set hl hj), hs⟩
  simp [Instr.entryStore, MapKept.run_getObj_map hb, asInt, asIntOf, hfi, MapKept.run_setObj_map _ hb]

theorem delete_sound (h : Rel B R w0 L H w) {ts : Array TypeId} {ty : TypeId} {p q : AV} {v u : Value} (hp : VA H.length L p v) (hq : VA H.length L q u) {K : List PO → Prop} (hs : deleteA P H ts.toList p q K) :
    ∃ w' H', (Builtin.delete_ ts ty #[v, u]).run P w = .ok (.tuple #[]) w' ∧ H'.length = H.length ∧ Rel B R w0 L H' w' ∧ K H' := by
  obtain ⟨ts⟩ := ts
  unfold deleteA at hs
  split at hs <;> try exact hs.elim
  rename_i t ts' hts
  dsimp only at hts
  subst hts
  split at hs <;> try exact hs.elim
  rename_i r
  obtain ⟨hr, rfl⟩ := hp
  rw [nth_eq] at hs
  split at hs <;> try exact hs.elim
  rename_i kn vb es clk hes
  obtain ⟨k, e, hu, hk, hz, hs⟩ := mapT_spec hs
  obtain ⟨n, rfl, hnl, hs⟩ := keyK_spec hq hs
  have hK := keyOk hk
  rw [setK_eq] at hs
  obtain ⟨xs, hb, hx, hl⟩ := h.obj r _ hes
  have c1 := hK.check w n hnl xs.isEmpty
  rcases hK.find w n hnl vb es hl with ⟨h1, h2, h5⟩ | ⟨j, e', h1, h0, h2, h3, h4, h5⟩
  · rw [h5] at hs
    rw [← hx] at h2
    have c2 := h2
    refine ⟨_, _, ?_, by simp, mp_set h hes (xs := xs) hx hl, hs⟩
    simp [Builtin.delete_, run_underlying_some hu, MapKept.run_getObj_map hb, c1, c2, MapKept.run_setObj_map _ hb]
  · rw [h5] at hs
    rw [← hx] at h3
    have c2 := h3
    have hsz : xs.size = es.length := by rw [← Array.length_toList, hx, List.length_map]
    have hj : j < xs.size := by rw [hsz]; exact (List.getElem?_eq_some_iff.1 h1).1
    refine ⟨_, _, ?_, by simp, mp_set h hes (xs := xs.eraseIdxIfInBounds j) (by
      rw [Array.eraseIdxIfInBounds, dif_pos hj, Array.toList_eraseIdx, hx]; refine List.ext_getElem? fun i => ?_; rw [List.getElem?_eraseIdx, List.getElem?_map, List.getElem?_map, List.getElem?_map, List.getElem?_eraseIdx]; split <;> rfl) (fun e he => hl e (List.mem_of_mem_eraseIdx he)), hs⟩
    simp [Builtin.delete_, run_underlying_some hu, MapKept.run_getObj_map hb, c1, c2, MapKept.run_setObj_map _ hb]

theorem lenH_sound (h : Rel B R w0 L H w) {t ty : TypeId} {p : AV} {v : Value} (hp : VA H.length L p v) {K : AV → Prop} (hs : lenH P H t p K) : ∃ r s, (Builtin.len_ #[t] ty #[v]).run P w = .ok s w ∧ VA H.length L r s ∧ K r := by
  unfold lenH at hs
  split at hs
  · rename_i r
    obtain ⟨hr, rfl⟩ := hp
    rw [nth_eq] at hs
    split at hs <;> try exact hs.elim
    rename_i kn vb es clk hes
    obtain ⟨k, e, hu, hk, hz, hs⟩ := mapT_spec hs
    obtain ⟨xs, hb, hx, hl⟩ := h.obj r _ hes
    have hsz : xs.size = es.length := by rw [← Array.length_toList, hx, List.length_map]
    refine ⟨i64 es.length, .int .i64 es.length, ?_, rfl, hs⟩
    simp [Builtin.len_, run_underlying_some hu, MapKept.run_getObj_map hb, hsz, goInt]
  · exact len_sound hp hs

end
end Go.Mac
end

/- The machine of abstract values, part 4d: one goes through a map. -/
section
namespace Go.Mac
open Go

section
variable {B R : Nat → Prop} {w0 : World} {N : Nat} {L : Nat → Loc} {H : List PO} {P : Program} {w : World}

theorem keyP_spec (kn : Nat) (k : List Int) : VP N L (keyP kn k) (keyV kn k) := by
  cases kn with
  | zero => exact rfl
  | succ n =>
    refine ⟨k.map (Value.int .i64), rfl, ?_⟩
    induction k with
    | nil => rfl
    | cons x k ih => exact ⟨_, _, rfl, rfl, ih⟩

theorem range_sound (h : Rel B R w0 L H w) {t : TypeId} {x : AV} {v : Value} (hx : VA H.length L x v) {K : AV → List PO → Prop} (hs : rangeA P H t x K) :
    ∃ u w' L' y H', (Instr.range t v).run P w = .ok u w' ∧ Agree H.length [] L L' ∧ H.length ≤ H'.length ∧ Rel B R w0 L' H' w' ∧ VA H'.length L' y u ∧ K y H' := by
  unfold rangeA at hs
  split at hs <;> try exact hs.elim
  rename_i r
  obtain ⟨hr, rfl⟩ := hx
  rw [nth_eq] at hs
  split at hs <;> try exact hs.elim
  rename_i kn vb es clk hes
  obtain ⟨k, e, hu, hk, hz, hs⟩ := mapT_spec hs
  have hK := snocK_spec hs
  obtain ⟨xs, hb, hx, hl⟩ := h.obj r _ hes
  have hag := upd_agree L ⟨⟨w.heap.size, 0, 0, 0⟩, fun _ => ⟨(L r).h.blk, 0, 0, 0⟩⟩ H.length []
  refine ⟨.pointer (some ⟨w.heap.size, 0, none⟩), w.alloc (.mapIter (some (L r).h.blk) clk #[] clk), upd L H.length ⟨⟨w.heap.size, 0, 0, 0⟩, fun _ => ⟨(L r).h.blk, 0, 0, 0⟩⟩, _, _, ?_, hag, ?_, ?_, ?_, hK⟩
  · simp [Instr.range, run_underlying_some hu, MapKept.run_getObj_map hb]
  · simp
  · refine h.put (M := []) H.length (.it false r clk [] clk) (by simp) (by simp) (fun j hj o1 ho1 => ?_) hag (fun j hj => upd_ne hj) ((Bel.refl B w).alloc h.size _)
      (fun b hb => .inl (heap_alloc_lt _ _ _ hb)) (fun b hb => ?_) (fun b (hb : False) => hb.elim) ?_
    · rcases Nat.lt_or_gt_of_ne hj with hl | hg
      · rw [List.getElem?_append_left hl] at ho1
        exact ⟨o1, ho1, (killO_nil o1).symm⟩
      · rw [List.getElem?_eq_none (by simp; omega)] at ho1
        cases ho1
    · rw [upd_self] at hb
      obtain rfl : b = w.heap.size := hb
      exact ⟨fun hb => Nat.lt_irrefl _ (h.size _ hb), by simp, .inl (Nat.le_refl _)⟩
    · rw [upd_self]
      exact ⟨rfl, heap_alloc_eq _ _, fun _ => ⟨by simp; omega, by rw [upd_ne (by omega)]⟩⟩
  · refine ⟨by simp, ?_⟩
    rw [upd_self]
    rfl

theorem left_spec {kn : Nat} {vb : Bool} {xs : Array MapEntry} {es : List (List Int × Int × Nat)} (hx : xs.toList = es.map (entV kn vb)) (seen : List Nat) :
    (xs.filter fun e => !seen.toArray.contains e.born).toList = (leftE es seen).map (entV kn vb) := by
  rw [Array.toList_filter, hx, List.filter_map, leftE]
  congr 1
  refine List.filter_congr fun e _ => ?_
  simp only [Function.comp_apply, entV, List.contains_toArray]

theorem next_sound (h : Rel B R w0 L H w) {x : AV} {v : Value} {ty : TypeId} (hx : VA H.length L x v) {K : AV → List PO → Prop} (hs : nextA H x K) :
    ∃ u w' y H', (Instr.next v false ty).run P w = .ok u w' ∧ H'.length = H.length ∧ Rel B R w0 L H' w' ∧ VA H.length L y u ∧ K y H' := by
  unfold nextA at hs
  split at hs <;> try exact hs.elim
  rename_i i
  obtain ⟨hi, rfl⟩ := hx
  rw [nth_eq] at hs
  split at hs <;> try exact hs.elim
  rename_i r since seen last hit
  rw [nth_eq] at hs
  split at hs <;> try exact hs.elim
  rename_i kn vb es clk hes
  obtain ⟨hbn, h0, h1⟩ := hs
  obtain ⟨ib, io, itt⟩ := h.obj i _ hit
  obtain ⟨hr, hL⟩ := itt rfl
  obtain ⟨xs, hm, hx, hl⟩ := h.obj r _ hes
  have hat : ((L i).h.at 0 0) = ⟨(L i).h.blk, 0, none⟩ := by simp [ILoc.at, ib]
  rw [← hL] at io
  have g1 : (getObj (L i).h.blk).run P w = .ok (.mapIter (some (L r).h.blk) since seen.toArray last) w := by simp [getObj, Sem.run, io]
  have g2 := MapKept.run_getObj_map (P := P) hm
  have hguard : (!seen.toArray.isEmpty && !xs.isEmpty && xs.all fun e => decide (e.born ≥ last)) = false := by
    cases es with
    | nil =>
      have : xs = #[] := by apply Array.ext'; rw [hx]; rfl
      subst this; simp
    | cons e es' =>
      have : (xs.all fun e => decide (e.born ≥ last)) = false := by
        rw [Bool.eq_false_iff]
        intro hh
        rw [← Array.all_toList, hx, List.all_eq_true] at hh
        have h3 := of_decide_eq_true (hh _ (List.mem_map_of_mem (List.mem_cons_self ..)))
        have h4 := (hbn e (List.mem_cons_self ..)).2
        have h5 : (entV kn vb e).born = e.2.2 := rfl
        omega
      rw [this, Bool.and_false]
  have hls := left_spec hx seen
  have hlb : ∀ y ∈ (xs.filter fun e => !seen.toArray.contains e.born).toList, y.born < since := fun y hy => by
    rw [hls] at hy
    obtain ⟨e, he, rfl⟩ := List.mem_map.1 hy
    exact (hbn e (List.mem_filter.1 he).1).1
  have hold : ((xs.filter fun e => !seen.toArray.contains e.born).filter fun e => decide (e.born < since)) = xs.filter fun e => !seen.toArray.contains e.born := by
    apply Array.ext'
    rw [Array.toList_filter, List.filter_eq_self]
    exact fun y hy => decide_eq_true (hlb y hy)
  have hnew : ((xs.filter fun e => !seen.toArray.contains e.born).filter fun e => decide (e.born ≥ since)) = #[] := by
    apply Array.ext'
    rw [Array.toList_filter]
    refine List.filter_eq_nil_iff.2 fun y hy => ?_
    have := hlb y hy
    simp; omega
  generalize hlf : (xs.filter fun e => !seen.toArray.contains e.born) = left at hls hold hnew
  rcases hle : leftE es seen with _ | ⟨e0, es0⟩
  · have hl0 : left = #[] := by apply Array.ext'; rw [hls, hle]; rfl
    refine ⟨.tuple #[.bool false], w, .tup [.c (.f (.bool false))], H, ?_, rfl, h, ⟨_, rfl, _, _, rfl, rfl, rfl⟩, h0 hle⟩
    simp only [Instr.next, hat, Sem.run_bind, g1, Result.andThen_ok, g2, hguard, Bool.false_eq_true, if_false, hlf, hold, hnew]
    simp [hl0, Question.forced]
  · have hlsz : left.size = es0.length + 1 := by rw [← Array.length_toList, hls, hle]; simp
    have hne : left.isEmpty = false := by simp [Array.isEmpty, hlsz]
    -- whichever comes
    have pick : ∃ (j : Nat) (w1 : World), (choose (.mapNext left.size)).run P w = .ok j w1 ∧ j < left.size ∧ (w1 = w ∨ w1 = w.drew) := by
      rw [run_choose]
      by_cases hf : (Question.mapNext left.size).forced = true
      · rw [if_pos hf]
        exact ⟨0, w, rfl, by omega, .inl rfl⟩
      · rw [if_neg hf]
        exact ⟨_, w.drew, rfl, Nat.mod_lt _ (by omega), .inr rfl⟩
    obtain ⟨j, w1, hch, hj, hw1⟩ := pick
    have hr1 : Rel B R w0 L H w1 := by
      rcases hw1 with rfl | rfl
      · exact h
      · exact h.drew
    have io1 : w1.heap[(L i).h.blk]? = some (.mapIter (some (L r).h.blk) since seen.toArray last) := by
      rcases hw1 with rfl | rfl <;> exact io
    obtain ⟨e, he, hje⟩ : ∃ e, e ∈ leftE es seen ∧ left[j]? = some (entV kn vb e) := by
      have hjl : j < (leftE es seen).length := by rw [hle]; simp; omega
      refine ⟨(leftE es seen)[j], List.getElem_mem hjl, ?_⟩
      rw [← Array.getElem?_toList, hls, List.getElem?_map, List.getElem?_eq_getElem hjl]
      rfl
    have hK := h1 e he
    rw [setK_eq] at hK
    have hlt := (List.getElem?_eq_some_iff.1 hit).1
    obtain ⟨hB, hbl, _⟩ := hr1.own i _ (L i).h.blk hit rfl
    obtain ⟨k1, k2⟩ := MapKept.heap_set (o' := .mapIter (some (L r).h.blk) since (seen.toArray.push e.2.2) clk) io1
    refine ⟨.tuple #[.bool true, keyV kn e.1, (elmF vb e.2.1).val], { w1 with heap := w1.heap.setIfInBounds (L i).h.blk (.mapIter (some (L r).h.blk) since (seen.toArray.push e.2.2) clk) }, .tup [.c (.f (.bool true)), keyP kn e.1, .c (.f (elmF vb e.2.1))], _, ?_, by simp, ?_,
      ⟨_, rfl, _, _, rfl, rfl, _, _, rfl, keyP_spec kn e.1, _, _, rfl, rfl, rfl⟩, hK⟩
    · have g3 : (setObj (L i).h.blk (.mapIter (some (L r).h.blk) since (seen.toArray.push e.2.2) clk)).run P w1 = .ok () { w1 with heap := w1.heap.setIfInBounds (L i).h.blk (.mapIter (some (L r).h.blk) since (seen.toArray.push e.2.2) clk) } := by
        simp [setObj, Sem.run, io1]
      simp only [Instr.next, hat, Sem.run_bind, g1, Result.andThen_ok, g2, hguard, Bool.false_eq_true, if_false, hlf, hold, hnew]
      simp only [hne, Bool.false_eq_true, if_false, Array.append_empty, Array.empty_append, Array.size_map, hch, Result.andThen_ok, Array.getElem?_map, hje, Option.map_some]
      simp only [Sem.run_bind, show (entV kn vb e).born = e.2.2 from rfl, g3, Result.andThen_ok, Sem.run_pure]
      rfl
    · refine hr1.put (M := []) i _ (by simp) (List.getElem?_set_self hlt) (fun j hj o1 ho1 => ?_) (Agree.refl _ _ _) (fun _ _ => rfl) ⟨rfl, rfl, rfl, by simp, fun q hq => k2 q fun e => hB (by rw [← e]; exact hq)⟩ (fun q hq => ?_) (fun q hq => ?_) (fun q (hq : False) => hq.elim)
        ⟨ib, ?_, fun _ => ⟨by simpa using hr, hL⟩⟩
      · rw [List.getElem?_set_ne (Ne.symm hj)] at ho1
        exact ⟨o1, ho1, (killO_nil o1).symm⟩
      · by_cases hqb : q = (L i).h.blk
        · exact .inr ⟨_, hit, hqb⟩
        · exact .inl (k2 q hqb)
      · obtain rfl : q = (L i).h.blk := hq
        exact ⟨hB, by simpa using hbl, .inr ⟨_, hit, rfl⟩⟩
      · rw [k1, hL]
        simp

theorem entAt_sound (h : Rel B R w0 L H w) {x : AV} {v : Value} (hx : VA H.length L x v) {K : AV → Prop} (hs : entAtA H x K) :
    ∃ y u, (Instr.entry v).run P w = .ok u w ∧ VA H.length L y u ∧ K y := by
  unfold entAtA at hs
  split at hs <;> try exact hs.elim
  rename_i i
  obtain ⟨hi, rfl⟩ := hx
  rw [nth_eq] at hs
  split at hs <;> try exact hs.elim
  rename_i r since seen last hit
  rw [nth_eq] at hs
  split at hs <;> try exact hs.elim
  rename_i kn vb es clk hes
  obtain ⟨hcl, b, e, hb, he, hK⟩ := hs
  obtain ⟨ib, io, itt⟩ := h.obj i _ hit
  obtain ⟨hr, hL⟩ := itt rfl
  obtain ⟨xs, hm, hx, hl⟩ := h.obj r _ hes
  have hat : ((L i).h.at 0 0) = ⟨(L i).h.blk, 0, none⟩ := by simp [ILoc.at, ib]
  rw [← hL] at io
  have g1 : (getObj (L i).h.blk).run P w = .ok (.mapIter (some (L r).h.blk) since seen.toArray last) w := by simp [getObj, Sem.run, io]
  have g2 := MapKept.run_getObj_map (P := P) hm
  have hbk : seen.toArray.back? = some b := by simpa using hb
  have hfd : xs.find? (fun e => e.born == b) = some (entV kn vb e) := by
    rw [← Array.find?_toList, hx, List.find?_map]
    have : ((fun e : MapEntry => e.born == b) ∘ entV kn vb) = fun e => e.2.2 == b := rfl
    rw [this, he]
    rfl
  refine ⟨.tup [keyP kn e.1, .c (.f (elmF vb e.2.1))], .tuple #[keyV kn e.1, (elmF vb e.2.1).val], ?_, ⟨_, rfl, _, _, rfl, keyP_spec kn e.1, _, _, rfl, rfl, rfl⟩, hK⟩
  subst hcl
  simp only [Instr.entry, hat, Sem.run_bind, g1, Result.andThen_ok, hbk, g2, bne_self_eq_false, Bool.false_eq_true, if_false, hfd, Sem.run_pure]
  rfl

end
end Go.Mac
end

/- The machine of abstract values, part 4d: copies are what they are said to be. -/
section
namespace Go.Mac
open Go

theorem over_length {α : Type} {xs ys : List α} {o : Nat} (h : o + ys.length ≤ xs.length) : (over xs o ys).length = xs.length := by
  simp [over]; omega

theorem over_get {α : Type} {xs ys : List α} {o : Nat} (h : o + ys.length ≤ xs.length) (j : Nat) : (over xs o ys)[j]? = if j < o then xs[j]? else if j < o + ys.length then ys[j - o]? else xs[j]? := by
  have ht : (xs.take o).length = o := by rw [List.length_take]; omega
  rw [over]
  by_cases h1 : j < o
  · rw [if_pos h1, List.append_assoc, List.getElem?_append_left (by omega), List.getElem?_take_of_lt h1]
  · rw [if_neg h1]
    by_cases h2 : j < o + ys.length
    · rw [if_pos h2, List.append_assoc, List.getElem?_append_right (by omega), ht, List.getElem?_append_left (by omega)]
    · rw [if_neg h2, List.getElem?_append_right (by simp; omega), List.getElem?_drop]
      congr 1
      simp [ht]; omega

section
variable {B R : Nat → Prop} {w0 : World} {N : Nat} {L : Nat → Loc} {H : List PO} {P : Program} {w : World}

theorem run_copy {t ty e : TypeId} {ts : List TypeId} {i : TypeInfo} (ht : P.underlying t = some (.slice e)) (hi : P.info? e = some i) {a : Option Addr} {n k m : Nat} {v : Value} {xs : List Value}
    (hv : (m = 0 ∧ v = .slice none 0 0) ∨ ∃ b c, v = .slice (some b) m c ∧ ∀ (j : Nat) (z : Value), xs[j]? = some z → w.cell? (b.add j) = some z) (hl : xs.length = min m n * i.size) {w' : World}
    (hst : ∀ a0, a = some a0 → (storeCells a0 xs).run P w = .ok () w') (hno : a = none → w' = w) :
    (Builtin.copy_ (t :: ts).toArray ty #[.slice a n k, v]).run P w = .ok (.int .i64 (min m n : Nat)) w' := by
  have hf : (Builtin.firstCells i.size (min m n) v).run P w = .ok xs.toArray w ∧ (Builtin.lenOf v).run P w = .ok m w := by
    rcases hv with ⟨rfl, rfl⟩ | ⟨b, c, rfl, hc⟩
    · have : xs = [] := List.length_eq_zero_iff.1 (by simpa using hl)
      subst this
      exact ⟨run_firstCells_none w _ _ _ _, rfl⟩
    · exact ⟨run_firstCells_some w _ _ _ _ _ xs hl hc, rfl⟩
  have hmin : Nat.min m n = min m n := rfl
  cases a with
  | none =>
    have := hno rfl
    subst this
    simp [Builtin.copy_, run_underlying_some ht, sizeOf, typeInfo, hi, hf.1, hf.2, hmin, goInt]
  | some a0 =>
    simp [Builtin.copy_, run_underlying_some ht, sizeOf, typeInfo, hi, hf.1, hf.2, hmin, hst a0 rfl, goInt]

/-- Cells are stored. -/
theorem store_raw {b off n : Nat} (hc : Cells w b n) (us : List Value) (h1 : ∀ v ∈ us, OneCell v = true) (hle : off + us.length ≤ n) :
    ∃ w', (storeCells ⟨b, off, none⟩ us 0).run P w = .ok () w' ∧ Bel (fun k => k ≠ b) w w' ∧ (∀ k, k ≠ b → w'.heap[k]? = w.heap[k]?) ∧ w'.heap.size = w.heap.size ∧ Cells w' b n ∧
      (∀ j, (j < off ∨ off + us.length ≤ j) → w'.cell? ⟨b, j, none⟩ = w.cell? ⟨b, j, none⟩) ∧ ∀ (j : Nat) (v : Value), us[j]? = some v → w'.cell? ⟨b, off + j, none⟩ = some v := by
  obtain ⟨c, t, fr, hblk, hsz, hfr⟩ := hc
  obtain ⟨w', c', hrun, hbel, hk, hz, hb', hc', hout, hin⟩ := run_storeCells' (P := P) (a := ⟨b, off, none⟩) rfl us w c 0 hblk (by simpa [hsz] using hle) hfr h1
  have hcell : ∀ j, w'.cell? ⟨b, j, none⟩ = c'[j]? := fun j => by
    have : w'.heap[b]? = some (.cells c' t fr) := hb'
    simp [World.cell?, this]
  have hcell0 : ∀ j, w.cell? ⟨b, j, none⟩ = c[j]? := fun j => by simp [World.cell?, hblk]
  refine ⟨w', hrun, hbel, hk, hz, ⟨c', t, fr, hb', by rw [hc', hsz], by rw [hc']; exact hfr⟩, fun j hj => ?_, fun j v hj => ?_⟩
  · rw [hcell, hcell0, hout j (by simpa using hj)]
  · rw [hcell]; exact by simpa using hin j v hj

theorem set_self {α : Type} {l : List α} {i : Nat} {x : α} (h : l[i]? = some x) : l.set i x = l := List.ext_getElem? fun j => by
  by_cases hj : j = i
  · subst hj; rw [List.getElem?_set_self (List.getElem?_eq_some_iff.1 h).1, h]
  · rw [List.getElem?_set_ne (Ne.symm hj)]

theorem over_nil {α : Type} (xs : List α) (o : Nat) : over xs o [] = xs := by simp [over]

/-- The headers from a place on. -/
def hdrs (w : World) (h : ILoc) (o n : Nat) : List Value := (List.range n).map fun j => (w.cell? (h.at (o + j) 0)).getD undef

theorem hdrs_len {h : ILoc} {o n : Nat} : (hdrs w h o n).length = n := by simp [hdrs]

theorem hdrs_get {h : ILoc} {o n j : Nat} (hj : j < n) : (hdrs w h o n)[j]? = some ((w.cell? (h.at (o + j) 0)).getD undef) := by
  rw [hdrs, List.getElem?_map, List.getElem?_range hj]; rfl

theorem hdrs_src {h : ILoc} {o n m : Nat} {c : Option Nat} {nn : Bool} {v : Value} (hh : Hdr h o m c nn v) (hs : h.sz = 1) (hm : n ≤ m) (hc : ∀ j, j < n → ∃ z, w.cell? (h.at (o + j) 0) = some z) :
    (m = 0 ∧ v = .slice none 0 0) ∨ ∃ b c, v = .slice (some b) m c ∧ ∀ (j : Nat) (z : Value), (hdrs w h o n)[j]? = some z → w.cell? (b.add j) = some z := by
  rcases hh with ⟨_, h0, hv, _⟩ | ⟨a, k, hv, hnk, _, _, _, ha⟩
  · exact .inl ⟨h0, hv⟩
  · refine .inr ⟨a, k, hv, fun j z hz => ?_⟩
    have hj : j < n := by have := (List.getElem?_eq_some_iff.1 hz).1; rwa [hdrs_len] at this
    obtain ⟨y, hy⟩ := hc j hj
    rw [hdrs_get hj, hy, Option.getD_some] at hz
    obtain rfl := Option.some.inj hz
    rw [ha (by omega), Addr.add_none _ _ rfl]
    simpa [ILoc.at, hs, Nat.add_assoc] using hy

/-- Where slices of slices are copied to: nothing at all, or a place in the block. -/
theorem hdr_dst {h : ILoc} {o m : Nat} {c : Option Nat} {nn : Bool} {v : Value} (hh : Hdr h o m c nn v) (hb : h.cap ≠ 0 → h.base = 0) (_hs : h.sz ≠ 0) :
    ∃ a k, v = .slice a m k ∧ (a = none → m = 0) ∧ ∀ a0, a = some a0 → m = 0 ∨ (h.cap ≠ 0 ∧ a0 = ⟨h.blk, o * h.sz, none⟩) := by
  rcases hh with ⟨_, h0, hv, _⟩ | ⟨a, k, hv, hnk, _, hok, _, ha⟩
  · exact ⟨none, 0, by rw [hv, h0], fun _ => h0, fun a0 h => by cases h⟩
  · refine ⟨some a, k, hv, fun h => (by cases h), fun a0 h => ?_⟩
    cases h
    rcases Nat.eq_zero_or_pos m with hm | hm
    · exact .inl hm
    · have hc : h.cap ≠ 0 := by omega
      refine .inr ⟨hc, ?_⟩
      rw [ha (by omega)]
      simp [ILoc.at, hb hc]

theorem copy_sound (h : Rel B R w0 L H w) {ts : List TypeId} {ty : TypeId} {d s : AV} {v u : Value} (hd : VA H.length L d v) (hs : VA H.length L s u) {K : AV → List Nat → List PO → Prop} (ha : copyA P H ts d s K) :
    ∃ r w', (Builtin.copy_ ts.toArray ty #[v, u]).run P w = .ok r w' ∧ Left B R w0 H.length L K r w' := by
  unfold copyA at ha
  split at ha <;> try exact ha.elim
  rename_i t ts
  split at ha <;> try exact ha.elim
  rename_i e rd od nd cd nnd rs os ns cs nns he
  simp only [cond_eq_ite] at ha
  split at ha <;> try exact ha.elim
  rename_i hinfo
  obtain ⟨i, hi⟩ := Option.isSome_iff_exists.1 hinfo
  have ht := elemT_spec he
  have hszOf : szOf P e = i.size := by simp [szOf, hi]
  obtain ⟨hrdN, hhd⟩ := hd
  obtain ⟨hrsN, hhs⟩ := hs
  simp only [nth_eq] at ha
  split at ha <;> try exact ha.elim
  · rename_i sz xs ro sz' ys hrd hrs
    simp only [Bool.and_eq_true] at ha
    split at ha <;> try exact ha.elim
    rename_i hb
    obtain ⟨hb1, hb2⟩ := hb
    have hb1 := Nat.eq_of_beq_eq_true hb1
    obtain rfl := Nat.eq_of_beq_eq_true hb2
    rw [hszOf] at hb1
    obtain ⟨hle1, hle2, hK⟩ := ha
    rw [setK_eq] at hK
    have hD : RowsAt w true sz' xs (L rd).h := h.obj rd _ hrd
    have hS : RowsAt w (!ro) sz' ys (L rs).h := h.obj rs _ hrs
    obtain ⟨d1, d2, d3, d4, d5⟩ := hD
    obtain ⟨n, hn⟩ : ∃ n, min ns nd = n := ⟨_, rfl⟩
    rw [hn] at hK
    obtain ⟨s1, s2, s3⟩ := hS.vals os n (by omega)
    have hyl : ((ys.drop os).take n).length = n := by simp; omega
    have hsrc : (ns = 0 ∧ u = .slice none 0 0) ∨ ∃ b c, u = .slice (some b) ns c ∧ ∀ (j : Nat) (z : Value), (vals ((ys.drop os).take n))[j]? = some z → w.cell? (b.add j) = some z := by
      rcases hhs with ⟨_, h0, hv, _⟩ | ⟨a, k, hv, hnk, _, _, _, ha⟩
      · exact .inl ⟨h0, hv⟩
      · refine .inr ⟨a, k, hv, fun j z hz => ?_⟩
        have : j < n * sz' := by have := (List.getElem?_eq_some_iff.1 hz).1; rwa [s2] at this
        have hn0 : n ≠ 0 := fun e => by rw [e] at this; simp at this
        rw [ha (by omega)]
        exact s3 j z hz
    have hvl : (vals ((ys.drop os).take n)).length = min ns nd * i.size := by rw [s2, hn, hb1]
    obtain ⟨a, k, rfl, hno, hdst⟩ := hdr_dst hhd (fun hc => (d4 rfl hc).1) (by omega)
    by_cases hn0 : n = 0
    · have hnil : (ys.drop os).take n = [] := List.length_eq_zero_iff.1 (by omega)
      rw [hnil] at hK hsrc hvl
      rw [over_nil, set_self hrd] at hK
      refine ⟨_, w, run_copy ht hi hsrc hvl (fun a0 _ => rfl) (fun _ => rfl), L, _, [], H, Agree.refl _ _ _, Nat.le_refl _, ?_, h, hK⟩
      rw [hn]
      rfl
    · cases a with
      | none => exact absurd (hno rfl) (by omega)
      | some a0 =>
        rcases hdst a0 rfl with hm | ⟨hcap, rfl⟩
        · omega
        obtain ⟨ob, q, hq, oc⟩ := d4 rfl hcap
        obtain ⟨w', hr, hrel⟩ := store_cells (P := P) h hrd (o' := .rows false sz' (over xs od ((ys.drop os).take n))) (b := (L rd).h.blk) (off := od * sz') (n := q) ⟨hcap, rfl⟩ (fun _ => Iff.rfl) (fun _ => Iff.rfl) oc
          (vals ((ys.drop os).take n)) vals_one (by rw [s2, ← Nat.add_mul]; exact Nat.le_trans (Nat.mul_le_mul_right _ (by omega)) hq) (fun w' hk hcc hout hin => by
            refine ⟨d1, d2, by rw [over_length (by omega)]; exact d3, fun _ _ => ⟨ob, q, hq, hcc⟩, fun j r hj => ?_⟩
            rw [over_get (by omega), hyl] at hj
            have hat : ∀ j f, (L rd).h.at j f = ⟨(L rd).h.blk, j * sz' + f, none⟩ := fun j f => by simp [ILoc.at, ob, d1]
            have old : ∀ (j : Nat) (r : List FC), xs[j]? = some r → (j < od ∨ od + n ≤ j) → r.length = sz' ∧ ∀ (f : Nat) (x : FC), r[f]? = some x → w'.cell? ((L rd).h.at j f) = some x.val := fun j r hj hjo => by
              obtain ⟨e1, e2⟩ := d5 j r hj
              refine ⟨e1, fun f x hx => ?_⟩
              have hf : f < sz' := by rw [← e1]; exact (List.getElem?_eq_some_iff.1 hx).1
              rw [hat, hout, ← hat]
              · exact e2 f x hx
              · rw [s2]
                rcases hjo with hjo | hjo
                · left
                  have := Nat.mul_le_mul_right sz' (show j + 1 ≤ od by omega)
                  rw [Nat.add_mul] at this
                  omega
                · right
                  have := Nat.mul_le_mul_right sz' hjo
                  rw [Nat.add_mul] at this
                  omega
            split at hj
            · exact old j r hj (by omega)
            · split at hj
              · refine ⟨s1 r (List.mem_of_getElem? hj), fun f x hx => ?_⟩
                have := hin _ _ (flat_get s1 hj hx)
                rw [hat]
                rwa [show od * sz' + ((j - od) * sz' + f) = j * sz' + f by rw [← Nat.add_assoc, ← Nat.add_mul]; congr 2; omega] at this
              · exact old j r hj (by omega))
        have hr' : (storeCells ⟨(L rd).h.blk, od * (L rd).h.sz, none⟩ (vals ((ys.drop os).take n))).run P w = .ok () w' := by rw [d1]; exact hr
        refine ⟨_, w', run_copy ht hi hsrc hvl (fun a1 e => by cases e; exact hr') (fun e => by cases e), L, _, [], _, Agree.refl _ _ _, by simp, ?_, hrel, hK⟩
        rw [hn]
        rfl
  · rename_i ap sz es sz' yss hrd hrs
    simp only [Bool.and_eq_true] at ha
    split at ha <;> try exact ha.elim
    rename_i hb
    obtain ⟨hb1, hb2⟩ := hb
    have hb1 := Nat.eq_of_beq_eq_true hb1
    obtain rfl := Nat.eq_of_beq_eq_true hb2
    rw [hszOf] at hb1
    obtain ⟨hle1, hle2, hK⟩ := ha
    have hK := hK fun j => (L rs).inn (os + j)
    rw [killHK_eq, setK_eq, setK_eq] at hK
    have hne : rd ≠ rs := fun e => by subst e; rw [hrd] at hrs; cases hrs
    obtain ⟨d1, d2, d3, d4⟩ := h.obj rd _ hrd
    obtain ⟨s1, s2, s3, s4, s5⟩ := h.obj rs _ hrs
    obtain ⟨n, hn⟩ : ∃ n, min ns nd = n := ⟨_, rfl⟩
    rw [hn] at hK
    have hcell : ∀ j, j < n → ∃ z, w.cell? ((L rs).h.at (os + j) 0) = some z ∧ Hdr ((L rs).inn (os + j)) 0 ((yss.drop os).getD j []).length none false z ∧ RowsAt w true sz' ((yss.drop os).getD j []) ((L rs).inn (os + j)) := fun j hj => by
      obtain ⟨q, hq⟩ : ∃ q, yss[os + j]? = some q := ⟨_, List.getElem?_eq_getElem (by omega)⟩
      obtain ⟨e1, z, e2, e3⟩ := s4 _ q hq
      have : (yss.drop os).getD j [] = q := by rw [List.getD_eq_getElem?_getD, List.getElem?_drop, hq]; rfl
      rw [this]
      exact ⟨z, e2, e3, e1⟩
    have hsrc := hdrs_src (w := w) (n := n) hhs s1 (by omega) fun j hj => by obtain ⟨z, h1, _⟩ := hcell j hj; exact ⟨z, h1⟩
    have hvl : (hdrs w (L rs).h os n).length = min ns nd * i.size := by rw [hdrs_len, hn, hb1, Nat.mul_one]
    have hone : ∀ z ∈ hdrs w (L rs).h os n, OneCell z = true := fun z hz => by
      obtain ⟨j, hj⟩ := List.mem_iff_getElem?.1 hz
      have hjn : j < n := by have := (List.getElem?_eq_some_iff.1 hj).1; rwa [hdrs_len] at this
      obtain ⟨y, h1, h2, _⟩ := hcell j hjn
      rw [hdrs_get hjn, h1, Option.getD_some] at hj
      obtain rfl := Option.some.inj hj
      exact h2.one
    obtain ⟨a, k, rfl, hno, hdst⟩ := hdr_dst hhd (fun hc => (d3 hc).1) (by omega)
    have hlen : ((List.range n).map fun j => some ((L rs).inn (os + j), (yss.drop os).getD j [])).length = n := by simp
    have key : ∀ w', Bel (fun k => ¬ ((L rd).h.cap ≠ 0 ∧ k = (L rd).h.blk)) w w' → w'.heap.size = w.heap.size → ((L rd).h.cap ≠ 0 → ∀ q, Cells w (L rd).h.blk q → Cells w' (L rd).h.blk q) →
        (∀ j, (j < od ∨ od + n ≤ j) → (L rd).h.cap ≠ 0 → w'.cell? ((L rd).h.at j 0) = w.cell? ((L rd).h.at j 0)) → (∀ j z, (hdrs w (L rs).h os n)[j]? = some z → w'.cell? ((L rd).h.at (od + j) 0) = some z) →
        Left B R w0 H.length L K (.int .i64 (min ns nd : Nat)) w' := by
      intro w' k1 k2 k3 k4 k5
      have hnB : ∀ k, B k → ¬ ((L rd).h.cap ≠ 0 ∧ k = (L rd).h.blk) := fun k hk hh => (h.own rd _ k hrd (.inl hh)).1 hk
      have hrel := h.seize (M := [rs]) (L' := L) (H' := ((H.map (killO [rs])).set rd (.rows3 false sz' (over es od ((List.range n).map fun j => some ((L rs).inn (os + j), (yss.drop os).getD j []))))).set rs .gone) (w' := w') rd [rs] (.rows3 false sz' (over es od ((List.range n).map fun j => some ((L rs).inn (os + j), (yss.drop os).getD j []))))
        (by simp) (by rw [List.getElem?_set_ne (Ne.symm hne), List.getElem?_set_self (by simpa using hrdN)]) (fun j hj o ho => by
          by_cases hj2 : j = rs
          · subst hj2
            rw [List.getElem?_set_self (by simpa using hrsN)] at ho
            exact .inl (Option.some.inj ho).symm
          · rw [List.getElem?_set_ne (Ne.symm hj2), List.getElem?_set_ne (Ne.symm hj), List.getElem?_map, Option.map_eq_some_iff] at ho
            obtain ⟨o1, ho1, rfl⟩ := ho
            exact .inr ⟨by simpa using hj2, o1, ho1, rfl⟩) (Agree.refl _ _ _) (fun _ _ => rfl)
        ⟨k1.os, k1.tape, k1.output, k1.size, fun k hk => k1.block k (hnB k hk)⟩ (fun b _ => by
          by_cases hh : (L rd).h.cap ≠ 0 ∧ b = (L rd).h.blk
          · exact .inr ⟨rd, _, .inl rfl, hrd, .inl hh⟩
          · exact .inl (k1.block b hh)) (fun b hb => by
          rcases hb with hb | ⟨j, p, hj, hc, rfl⟩
          · obtain ⟨g1, g2, _⟩ := h.own rd _ b hrd (.inl hb)
            exact ⟨g1, by omega, .inr ⟨rd, _, .inl rfl, hrd, .inl hb⟩⟩
          · rw [over_get (by omega), hlen] at hj
            have hold : es[j]? = some (some p) → ¬ B p.1.blk ∧ p.1.blk < w'.heap.size ∧ (w.heap.size ≤ p.1.blk ∨ ∃ j o, (j = rd ∨ j ∈ [rs]) ∧ H[j]? = some o ∧ Own o (L j) p.1.blk) := fun hj => by
              have ho : Own (.rows3 ap sz' es) (L rd) p.1.blk := .inr ⟨j, p, hj, hc, rfl⟩
              obtain ⟨g1, g2, _⟩ := h.own rd _ _ hrd ho
              exact ⟨g1, by omega, .inr ⟨rd, _, .inl rfl, hrd, ho⟩⟩
            split at hj
            · exact hold hj
            · split at hj
              · rename_i hjn
                rw [List.getElem?_map, List.getElem?_range (by omega)] at hj
                have hj := Option.some.inj (Option.some.inj hj)
                subst hj
                have ho : Own (.rows2 false sz' yss) (L rs) ((L rs).inn (os + (j - od))).blk := .inr ⟨_, by omega, hc, rfl⟩
                obtain ⟨g1, g2, _⟩ := h.own rs _ _ hrs ho
                exact ⟨g1, by show ((L rs).inn (os + (j - od))).blk < _; omega, .inr ⟨rs, _, .inr (by simp), hrs, ho⟩⟩
              · exact hold hj) (fun b hb => hb.elim) (by
          refine ⟨d1, by rw [over_length (by omega)]; exact d2, fun hc => ⟨(d3 hc).1, (d3 hc).2.elim fun q hq => ⟨q, hq.1, k3 hc q hq.2⟩⟩, fun j p hj => ?_⟩
          have hlt : j < es.length := by have := (List.getElem?_eq_some_iff.1 hj).1; rwa [over_length (by omega)] at this
          have hcap : (L rd).h.cap ≠ 0 := by omega
          rw [over_get (by omega), hlen] at hj
          have hold : es[j]? = some (some p) → (j < od ∨ od + n ≤ j) → RowsAt w' true sz' p.2 p.1 ∧ (∃ v, w'.cell? ((L rd).h.at j 0) = some v ∧ Hdr p.1 0 p.2.length none false v) ∧
              (p.1.cap ≠ 0 → ((L rd).h.cap ≠ 0 → p.1.blk ≠ (L rd).h.blk) ∧ (false = true → ∀ (j2 : Nat) (q : ILoc × List (List FC)), (over es od ((List.range n).map fun j => some ((L rs).inn (os + j), (yss.drop os).getD j [])))[j2]? = some (some q) → q.1.cap ≠ 0 → q.1.blk = p.1.blk → j2 = j)) := fun hj hjo => by
            obtain ⟨e1, ⟨z, e2, e3⟩, e4⟩ := d4 j p hj
            refine ⟨e1.mono fun hc => k1.block _ fun hh => (e4 hc).1 hcap hh.2, ⟨z, by rw [k4 j hjo hcap]; exact e2, e3⟩, fun hc => ⟨(e4 hc).1, fun h => by cases h⟩⟩
          split at hj
          · exact hold hj (by omega)
          · split at hj
            · rename_i hjn
              rw [List.getElem?_map, List.getElem?_range (by omega)] at hj
              have hj := Option.some.inj (Option.some.inj hj)
              subst hj
              obtain ⟨z, e2, e3, e1⟩ := hcell (j - od) (by omega)
              have hown : ((L rs).inn (os + (j - od))).cap ≠ 0 → Own (.rows2 false sz' yss) (L rs) ((L rs).inn (os + (j - od))).blk := fun hc => .inr ⟨_, by omega, hc, rfl⟩
              have hdiff : ((L rs).inn (os + (j - od))).cap ≠ 0 → ((L rs).inn (os + (j - od))).blk ≠ (L rd).h.blk := fun hc e => hne ((h.own rs _ _ hrs (hown hc)).2.2 rd _ hrd (.inl ⟨hcap, e⟩))
              refine ⟨e1.mono fun hc => k1.block _ fun hh => hdiff hc hh.2, ⟨z, ?_, e3⟩, fun hc => ⟨fun _ => hdiff hc, fun h => by cases h⟩⟩
              have := k5 (j - od) z (by rw [hdrs_get (by omega), e2]; rfl)
              rwa [show od + (j - od) = j by omega] at this
            · exact hold hj (by omega))
      refine ⟨L, _, _, _, Agree.refl _ _ _, by simp, ?_, hrel, hK⟩
      rw [hn]
      rfl
    by_cases hn0 : n = 0
    · have hnil : hdrs w (L rs).h os n = [] := List.length_eq_zero_iff.1 (by rw [hdrs_len]; exact hn0)
      rw [hnil] at hsrc hvl
      exact ⟨_, w, run_copy ht hi hsrc hvl (fun a0 _ => rfl) (fun _ => rfl), key w (Bel.refl _ _) rfl (fun _ _ hq => hq) (fun _ _ _ => rfl) fun j z hz => by rw [hnil] at hz; simp at hz⟩
    · cases a with
      | none => exact absurd (hno rfl) (by omega)
      | some a0 =>
        rcases hdst a0 rfl with hm | ⟨hcap, rfl⟩
        · omega
        obtain ⟨ob, q, hq, oc⟩ := d3 hcap
        have hat : ∀ j, (L rd).h.at j 0 = ⟨(L rd).h.blk, j, none⟩ := fun j => by simp [ILoc.at, ob, d1]
        obtain ⟨w', hr, hbel, hk, hz, hcc, hout, hin⟩ := store_raw (P := P) (off := od) oc (hdrs w (L rs).h os n) hone (by rw [hdrs_len]; omega)
        have hr' : (storeCells ⟨(L rd).h.blk, od * (L rd).h.sz, none⟩ (hdrs w (L rs).h os n)).run P w = .ok () w' := by rw [d1, Nat.mul_one]; exact hr
        refine ⟨_, w', run_copy ht hi hsrc hvl (fun a1 e => by cases e; exact hr') (fun e => by cases e), key w' ⟨hbel.os, hbel.tape, hbel.output, hbel.size, fun k hk => hbel.block k fun e => hk ⟨hcap, e⟩⟩ hz (fun _ q' hq' => ?_) (fun j hj _ => ?_) fun j z hj => ?_⟩
        · obtain ⟨c1, t1, f1, g1, g2, g3⟩ := hq'
          obtain ⟨c2, t2, f2, g4, g5, g6⟩ := oc
          rw [g1] at g4
          cases g4
          rw [g2] at g5
          rw [g5]
          exact hcc
        · rw [hat]
          exact hout j (by rw [hdrs_len]; exact hj)
        · rw [hat]
          exact hin j z hj
  · rename_i ap sz es ap2 sz2 es2 hrd hrs
    simp only [Bool.and_eq_true] at ha
    split at ha <;> try exact ha.elim
    rename_i hb
    obtain ⟨hb1, hb2⟩ := hb
    have hb1 := Nat.eq_of_beq_eq_true hb1
    obtain rfl := Nat.eq_of_beq_eq_true hb2
    rw [hszOf] at hb1
    rw [hrd] at hrs
    cases hrs
    obtain ⟨hle1, hle2, hsome, hK⟩ := ha
    rw [setK_eq] at hK
    obtain ⟨d1, d2, d3, d4⟩ := h.obj rd _ hrd
    obtain ⟨n, hn⟩ : ∃ n, min ns nd = n := ⟨_, rfl⟩
    rw [hn] at hK hsome
    have hcell : ∀ j, j < n → ∃ p z, es[os + j]? = some (some p) ∧ w.cell? ((L rd).h.at (os + j) 0) = some z ∧ Hdr p.1 0 p.2.length none false z := fun j hj => by
      obtain ⟨q, hq⟩ : ∃ q, es[os + j]? = some q := ⟨_, List.getElem?_eq_getElem (by omega)⟩
      have hm : q ∈ (es.drop os).take n := List.mem_of_getElem? (i := j) (by rw [List.getElem?_take_of_lt hj, List.getElem?_drop, hq])
      obtain ⟨p, rfl⟩ := Option.isSome_iff_exists.1 (hsome q hm)
      obtain ⟨_, ⟨z, e2, e3⟩, _⟩ := d4 _ p hq
      exact ⟨p, z, hq, e2, e3⟩
    have hsrc := hdrs_src (w := w) (n := n) hhs d1 (by omega) fun j hj => by obtain ⟨p, z, _, h1, _⟩ := hcell j hj; exact ⟨z, h1⟩
    have hvl : (hdrs w (L rd).h os n).length = min ns nd * i.size := by rw [hdrs_len, hn, hb1, Nat.mul_one]
    have hone : ∀ z ∈ hdrs w (L rd).h os n, OneCell z = true := fun z hz => by
      obtain ⟨j, hj⟩ := List.mem_iff_getElem?.1 hz
      have hjn : j < n := by have := (List.getElem?_eq_some_iff.1 hj).1; rwa [hdrs_len] at this
      obtain ⟨p, y, _, h1, h2⟩ := hcell j hjn
      rw [hdrs_get hjn, h1, Option.getD_some] at hj
      obtain rfl := Option.some.inj hj
      exact h2.one
    obtain ⟨a, k, rfl, hno, hdst⟩ := hdr_dst hhd (fun hc => (d3 hc).1) (by omega)
    have hlen : ((es.drop os).take n).length = n := by simp; omega
    have key : ∀ w', Bel (fun k => ¬ ((L rd).h.cap ≠ 0 ∧ k = (L rd).h.blk)) w w' → w'.heap.size = w.heap.size → ((L rd).h.cap ≠ 0 → ∀ q, Cells w (L rd).h.blk q → Cells w' (L rd).h.blk q) →
        (∀ j, (j < od ∨ od + n ≤ j) → (L rd).h.cap ≠ 0 → w'.cell? ((L rd).h.at j 0) = w.cell? ((L rd).h.at j 0)) → (∀ j z, (hdrs w (L rd).h os n)[j]? = some z → w'.cell? ((L rd).h.at (od + j) 0) = some z) →
        Left B R w0 H.length L K (.int .i64 (min ns nd : Nat)) w' := by
      intro w' k1 k2 k3 k4 k5
      have hnB : ∀ k, B k → ¬ ((L rd).h.cap ≠ 0 ∧ k = (L rd).h.blk) := fun k hk hh => (h.own rd _ k hrd (.inl hh)).1 hk
      have hget : ∀ (j : Nat) (p : ILoc × List (List FC)), (over es od ((es.drop os).take n))[j]? = some (some p) → ∃ j2, es[j2]? = some (some p) ∧ (j2 = j ∧ (j < od ∨ od + n ≤ j) ∨ ∃ q, q < n ∧ j = od + q ∧ j2 = os + q) := fun j p hj => by
        rw [over_get (by omega), hlen] at hj
        split at hj
        · exact ⟨j, hj, .inl ⟨rfl, by omega⟩⟩
        · split at hj
          · rw [List.getElem?_take_of_lt (by omega), List.getElem?_drop] at hj
            exact ⟨_, hj, .inr ⟨j - od, by omega, by omega, rfl⟩⟩
          · exact ⟨j, hj, .inl ⟨rfl, by omega⟩⟩
      have hrel := h.put (M := []) (L' := L) (H' := H.set rd (.rows3 false sz (over es od ((es.drop os).take n)))) (w' := w') rd (.rows3 false sz (over es od ((es.drop os).take n)))
        (by simp) (List.getElem?_set_self hrdN) (fun j hj o ho => by
          rw [List.getElem?_set_ne (Ne.symm hj)] at ho
          exact ⟨o, ho, (killO_nil o).symm⟩) (Agree.refl _ _ _) (fun _ _ => rfl)
        ⟨k1.os, k1.tape, k1.output, k1.size, fun k hk => k1.block k (hnB k hk)⟩ (fun b _ => by
          by_cases hh : (L rd).h.cap ≠ 0 ∧ b = (L rd).h.blk
          · exact .inr ⟨_, hrd, .inl hh⟩
          · exact .inl (k1.block b hh)) (fun b hb => by
          have ho : Own (.rows3 ap sz es) (L rd) b := by
            rcases hb with hb | ⟨j, p, hj, hc, rfl⟩
            · exact .inl hb
            · obtain ⟨j2, hj2, _⟩ := hget j p hj
              exact .inr ⟨j2, p, hj2, hc, rfl⟩
          obtain ⟨g1, g2, _⟩ := h.own rd _ b hrd ho
          exact ⟨g1, by omega, .inr ⟨_, hrd, ho⟩⟩) (fun b hb => hb.elim) (by
          refine ⟨d1, by rw [over_length (by omega)]; exact d2, fun hc => ⟨(d3 hc).1, (d3 hc).2.elim fun q hq => ⟨q, hq.1, k3 hc q hq.2⟩⟩, fun j p hj => ?_⟩
          have hlt : j < es.length := by have := (List.getElem?_eq_some_iff.1 hj).1; rwa [over_length (by omega)] at this
          have hcap : (L rd).h.cap ≠ 0 := by omega
          obtain ⟨j2, hj2, hjj⟩ := hget j p hj
          obtain ⟨e1, ⟨z, e2, e3⟩, e4⟩ := d4 j2 p hj2
          refine ⟨e1.mono fun hc => k1.block _ fun hh => (e4 hc).1 hcap hh.2, ⟨z, ?_, e3⟩, fun hc => ⟨(e4 hc).1, fun h => by cases h⟩⟩
          rcases hjj with ⟨rfl, hjo⟩ | ⟨q, hq, rfl, rfl⟩
          · rw [k4 _ hjo hcap]; exact e2
          · exact k5 q z (by rw [hdrs_get hq, e2]; rfl))
      refine ⟨L, _, [], _, Agree.refl _ _ _, by simp, ?_, hrel, hK⟩
      rw [hn]
      rfl
    by_cases hn0 : n = 0
    · have hnil : hdrs w (L rd).h os n = [] := List.length_eq_zero_iff.1 (by rw [hdrs_len]; exact hn0)
      rw [hnil] at hsrc hvl
      exact ⟨_, w, run_copy ht hi hsrc hvl (fun a0 _ => rfl) (fun _ => rfl), key w (Bel.refl _ _) rfl (fun _ _ hq => hq) (fun _ _ _ => rfl) fun j z hz => by rw [hnil] at hz; simp at hz⟩
    · cases a with
      | none => exact absurd (hno rfl) (by omega)
      | some a0 =>
        rcases hdst a0 rfl with hm | ⟨hcap, rfl⟩
        · omega
        obtain ⟨ob, q, hq, oc⟩ := d3 hcap
        have hat : ∀ j, (L rd).h.at j 0 = ⟨(L rd).h.blk, j, none⟩ := fun j => by simp [ILoc.at, ob, d1]
        obtain ⟨w', hr, hbel, hk, hz, hcc, hout, hin⟩ := store_raw (P := P) (off := od) oc (hdrs w (L rd).h os n) hone (by rw [hdrs_len]; omega)
        have hr' : (storeCells ⟨(L rd).h.blk, od * (L rd).h.sz, none⟩ (hdrs w (L rd).h os n)).run P w = .ok () w' := by rw [d1, Nat.mul_one]; exact hr
        refine ⟨_, w', run_copy ht hi hsrc hvl (fun a1 e => by cases e; exact hr') (fun e => by cases e), key w' ⟨hbel.os, hbel.tape, hbel.output, hbel.size, fun k hk => hbel.block k fun e => hk ⟨hcap, e⟩⟩ hz (fun _ q' hq' => ?_) (fun j hj _ => ?_) fun j z hj => ?_⟩
        · obtain ⟨c1, t1, f1, g1, g2, g3⟩ := hq'
          obtain ⟨c2, t2, f2, g4, g5, g6⟩ := oc
          rw [g1] at g4
          cases g4
          rw [g2] at g5
          rw [g5]
          exact hcc
        · rw [hat]
          exact hout j (by rw [hdrs_len]; exact hj)
        · rw [hat]
          exact hin j z hj

end
end Go.Mac
end

/- The machine of abstract values, part 5: statements and functions are what they are said to be. -/
section
namespace Go.Mac
open Go

section
variable {B R : Nat → Prop} {w0 : World} {N : Nat} {L : Nat → Loc} {H : List PO} {P : Program} {w : World} {a : Act} {nt : Nat} {T : Tm}

theorem VAs.map_ev (h : TR N L nt T a) : ∀ (xs : List Operand), VAs N L (xs.map (ev T)) (xs.map a.eval)
  | [] => rfl
  | x :: xs => ⟨_, _, rfl, h.eval x, VAs.map_ev h xs⟩

theorem VAs.append : ∀ {xs ys : List AV} {vs us : List Value}, VAs N L xs vs → VAs N L ys us → VAs N L (xs ++ ys) (vs ++ us)
  | [], _, _, _, h, h' => by simp [VAs] at h; subst h; exact h'
  | x :: xs, _, _, _, ⟨y, zs, h1, h2, h3⟩, h' => by subst h1; exact ⟨y, _, rfl, h2, VAs.append h3 h'⟩

theorem run_places {fs : Array Field} (h : fs.all (fun f => (P.info? f.type).isSome) = true) :
    (fs.mapM (fun (f : Field) => do pure (f.offset, ← sizeOf f.type)) : Sem (Array (Nat × Nat))).run P w = .ok (fs.map fun f => (f.offset, szOf P f.type)) w := by
  obtain ⟨l⟩ := fs
  simp only [List.mapM_toArray, Sem.run_map, List.map_toArray]
  have : ∀ l : List Field, (∀ f ∈ l, (P.info? f.type).isSome = true) →
      (l.mapM (fun (f : Field) => do pure (f.offset, ← sizeOf f.type)) : Sem (List (Nat × Nat))).run P w = .ok (l.map fun f => (f.offset, szOf P f.type)) w := by
    intro l
    induction l with
    | nil => intro _; simp
    | cons f l ih =>
      intro hl
      simp only [List.mapM_cons, Sem.run_bind, run_sizeOf_some (hl f (by simp)), Result.andThen_ok, Sem.run_pure, ih fun g hg => hl g (by simp [hg]), List.map_cons]
  rw [this l (by simpa using h)]
  rfl

theorem build_sound {t : TypeId} {parts : Array (Nat × Operand)} (ht : TR N L nt T a) {K : AV → Prop} (h : buildA P t (parts.toList.map fun p => (p.1, ev T p.2)) K) :
    ∃ r s, (Instr.build t (parts.map fun (i, x) => (i, a.eval x))).run P w = .ok s w ∧ VA N L r s ∧ K r := by
  unfold buildA at h
  split at h <;> try exact h.elim
  rename_i zc place hz hpl
  obtain ⟨zv, hzr, hzv⟩ := zval_sound (N := N) (L := L) (w := w) hz
  obtain ⟨zvs, rfl, hzvs⟩ := hzv
  have hv2 : VAs N L ((parts.toList.map fun p => (p.1, ev T p.2)).map (·.2)) (((parts.map fun (i, x) => (i, a.eval x)).toList).map (·.2)) := by
    have := VAs.map_ev ht (parts.toList.map (·.2))
    simpa [Function.comp_def] using this
  obtain ⟨cs, vcs, hf, hr, hK⟩ := fill_sound (N := N) (L := L) place _ (parts.map fun (i, x) => (i, a.eval x)).toList zc zvs.toArray (by simp [Function.comp_def]) hv2 (by simpa using hzvs) h
  unfold placeT at hpl
  split at hpl <;> try cases hpl
  · rename_i fs hu
    simp only [cond_eq_ite] at hpl
    split at hpl <;> simp only [Option.some.injEq, reduceCtorEq] at hpl
    rename_i hall
    subst hpl
    have hall : fs.all (fun f => (P.info? f.type).isSome) = true := by rw [← Array.all_toList]; exact hall
    simp only [nth_eq, Array.getElem?_toList] at hf
    refine ⟨.p (.agg cs), .agg vcs, ?_, ⟨vcs.toList, by simp, hr⟩, hK⟩
    simp only [Instr.build, Sem.run_bind, hzr, Result.andThen_ok, run_underlying_some hu, run_places hall]
    have hpl' : (fun (i : Nat) => (fs.map fun (f : Field) => (f.offset, szOf P f.type))[i]?) = fun (i : Nat) => (fs[i]?).map fun (f : Field) => (f.offset, szOf P f.type) := by
      funext i; simp
    simp only [Value.cells, hpl', hf, Sem.run_pure]
  · rename_i n e hu
    simp only [cond_eq_ite] at hpl
    split at hpl <;> simp only [Option.some.injEq, reduceCtorEq] at hpl
    rename_i hinfo
    subst hpl
    refine ⟨.p (.agg cs), .agg vcs, ?_, ⟨vcs.toList, by simp, hr⟩, hK⟩
    simp only [Instr.build, Sem.run_bind, hzr, Result.andThen_ok, run_underlying_some hu, run_sizeOf_some hinfo, Value.cells, hf, Sem.run_pure]

theorem extract_sound {p : AV} {v : Value} {i : Nat} {K : AV → Prop} (hx : VA N L p v) (h : extractA p i K) : ∃ r s, (Instr.extract v i).run P w = .ok s w ∧ VA N L r s ∧ K r := by
  unfold extractA at h
  split at h <;> try exact h.elim
  rw [nth_eq] at h
  split at h <;> try exact h.elim
  rename_i vs y hy
  obtain ⟨us, rfl, hus⟩ := hx
  obtain ⟨u, hu, hyu⟩ := hus.get hy
  exact ⟨.p y, u, by simp [Instr.extract, hu], hyu, h⟩

theorem fieldAddr_sound {t : TypeId} {p : AV} {v : Value} {i : Nat} {K : AV → Prop} (hx : VA N L p v) (h : fieldAddrA P t p i K) : ∃ r s, (Instr.fieldAt t v i).run P w = .ok s w ∧ VA N L r s ∧ K r := by
  unfold fieldAddrA at h
  split at h <;> try exact h.elim
  rename_i off ft hft
  simp only [cond_eq_ite] at h
  split at h <;> try exact h.elim
  rename_i hsz
  have hsz : szOf P ft ≠ 0 := by intro e; rw [e] at hsz; simp at hsz
  unfold fieldT at hft
  split at hft <;> try cases hft
  rename_i fs hu
  simp only [Option.map_eq_some_iff, Prod.mk.injEq] at hft
  obtain ⟨fd, hfd, rfl, rfl⟩ := hft
  rw [nth_eq, Array.getElem?_toList] at hfd
  have hinfo : (P.info? fd.type).isSome = true := by
    cases hi : P.info? fd.type with
    | none => simp [szOf, hi] at hsz
    | some x => rfl
  have hrun : ∀ ad : Addr, (Instr.fieldAt t (.pointer (some ad)) i).run P w = .ok (.pointer (some (ad.add fd.offset))) w := fun ad => by
    simp only [Instr.fieldAt, Sem.run_bind, run_underlying_some hu, Result.andThen_ok, hfd, Instr.sureAddr, Sem.run_pure, fieldPlace, run_sizeOf_some hinfo, if_neg hsz]
  split at h <;> try exact h.elim
  all_goals
    obtain ⟨hr, rfl⟩ := hx
    refine ⟨_, _, hrun _, ?_, h⟩
    refine ⟨hr, ?_⟩
    rw [Addr.add_none _ _ rfl]
    simp [ILoc.at, Nat.add_assoc]

theorem field_sound {t : TypeId} {p : AV} {v : Value} {i : Nat} {K : AV → Prop} (hx : VA N L p v) (h : fieldA P t p i K) : ∃ r s, (Instr.field t v i).run P w = .ok s w ∧ VA N L r s ∧ K r := by
  unfold fieldA at h
  split at h <;> try exact h.elim
  rename_i off ft hft
  split at h <;> try exact h.elim
  rename_i hagg
  split at h <;> try exact h.elim
  rename_i cs
  rw [nth_eq] at h
  split at h <;> try exact h.elim
  rename_i y hy
  unfold fieldT at hft
  split at hft <;> try cases hft
  rename_i fs hu
  simp only [Option.map_eq_some_iff, Prod.mk.injEq] at hft
  obtain ⟨fd, hfd, rfl, rfl⟩ := hft
  rw [nth_eq, Array.getElem?_toList] at hfd
  obtain ⟨vs, rfl, hvs⟩ := hx
  obtain ⟨u, hu2, hyu⟩ := hvs.get hy
  refine ⟨.p (.c y), u, ?_, hyu, h⟩
  simp only [Instr.field, Sem.run_bind, run_underlying_some hu, Result.andThen_ok, hfd, asAgg, Sem.run_pure, part, run_isAgg_some hagg, Bool.false_eq_true, if_false]
  simp [hu2]

theorem mkIface_sound {t : TypeId} {p : AV} {v : Value} {K : AV → Prop} (hx : VA N L p v) (h : mkIfaceA P t p K) : ∃ r s, (Instr.makeInterface t v).run P w = .ok s w ∧ VA N L r s ∧ K r := by
  unfold mkIfaceA at h
  split at h <;> try exact h.elim
  rename_i h1 h2
  split at h <;> try exact h.elim
  rename_i y
  cases hu : P.underlying t with
  | none => exact absurd hu h2
  | some d =>
    refine ⟨cv (.iface t y), .iface t v, ?_, ⟨v, rfl, hx⟩, h⟩
    simp only [Instr.makeInterface, Sem.run_bind, run_underlying_some hu, Result.andThen_ok]
    cases d <;> first | rfl | exact absurd hu (h1 _)

theorem run_callFunc {f : FuncId} {fn : Func} {args : Array Value} (hf : P.funcs[f]? = some fn) (hn : fn.name ≠ "runtime.NumGoroutine") (hb : fn.body.isSome = true) :
    (callFunc f args).run P w = .ok (.enter f args) w := by
  have hb' : fn.body.isNone = false := by cases h : fn.body <;> simp [h] at hb ⊢
  simp only [callFunc, Sem.run_bind, run_program, Result.andThen_ok, hf]
  have hn' : (fn.name == "runtime.NumGoroutine") = false := by simpa using hn
  simp [hn', hb']

/-- What an operation leaves. -/
def Out (P : Program) (B R : Nat → Prop) (w0 : World) (N : Nat) (L : Nat → Loc) (K : AV → List Nat → List PO → Prop) (w : World) (r : Result Next) : Prop :=
  (∃ v w', (r = .ok (.value v) w' ∨ r = .ok .skip w' ∧ v = undef) ∧ Left B R w0 N L K v w') ∨
  (∃ f args, r = .ok (.enter f args) w ∧ Calls P f args w fun e w' => ∃ v, e = .returned v ∧ Left B R w0 N L K v w')

variable {K : AV → List Nat → List PO → Prop}

theorem Out.value {x : AV} {v : Value} (hrel : Rel B R w0 L H w) (hx : VA H.length L x v) (hK : K x [] H) : Out P B R w0 H.length L K w (.ok (.value v) w) :=
  .inl ⟨v, w, .inl rfl, L, x, [], H, Agree.refl _ _ _, Nat.le_refl _, hx, hrel, hK⟩

theorem Out.of_pure {s : Sem Value} (hrel : Rel B R w0 L H w) (h : ∃ y u, s.run P w = .ok u w ∧ VA H.length L y u ∧ K y [] H) :
    Out P B R w0 H.length L K w ((do pure (Next.value (← s)) : Sem Next).run P w) := by
  obtain ⟨y, u, hr, hy, hK⟩ := h
  simp only [Sem.run_bind, hr, Result.andThen_ok, Sem.run_pure]
  exact Out.value hrel hy hK

theorem Out.box {x : AV} {v : Value} {s : Sem Value} {t : TypeId} (hrel : Rel B R w0 L H w) (hx : VA H.length L x v) (hb : boxA H x fun v H' => K v [] H')
    (hs : ∀ u w', (newVar t v).run P w = .ok u w' → s.run P w = .ok (.pointer (some u)) w') : Out P B R w0 H.length L K w ((do pure (Next.value (← s)) : Sem Next).run P w) := by
  obtain ⟨u, w', L', y, H', hr, hag, hle, hrel', hy, hK⟩ := box_sound (P := P) hrel hx t hb
  simp only [Sem.run_bind, hs u w' hr, Result.andThen_ok, Sem.run_pure]
  exact .inl ⟨_, w', .inl rfl, L', y, [], H', hag, hle, hy, hrel', hK⟩

theorem evs_spec {T : Tm} : ∀ {xs : List Operand} {k : List AV → Prop}, evs T xs k → k (xs.map (ev T))
  | [], _, h => h
  | x :: xs, k, h => by
    simp only [evs, fA_eq] at h
    exact evs_spec (xs := xs) h

theorem capsK_spec : ∀ {rs : List Nat} {k : List AV → Prop}, capsK rs k → k (rs.map fun r => cv (.ptr r 0))
  | [], _, h => h
  | _ :: rs, _, h => capsK_spec (rs := rs) h

theorem addK_spec : ∀ {xs ys : List AV} {k : List AV → Prop}, addK xs ys k → k (xs ++ ys)
  | [], _, _, h => h
  | _ :: xs, _, _, h => addK_spec (xs := xs) h

theorem VAs.caps : ∀ (cap : List Nat), (∀ r ∈ cap, r < N) → VAs N L (cap.map fun r => cv (.ptr r 0)) (cap.map fun r => Value.pointer (some ((L r).h.at 0 0)))
  | [], _ => rfl
  | r :: cap, h => ⟨_, _, rfl, ⟨h r (by simp), rfl⟩, VAs.caps cap fun r hr => h r (by simp [hr])⟩

theorem Out.left {s : Sem Value} (h : ∃ r w', s.run P w = .ok r w' ∧ Left B R w0 H.length L K r w') : Out P B R w0 H.length L K w ((do pure (Next.value (← s)) : Sem Next).run P w) := by
  obtain ⟨r, w', h1, h2⟩ := h
  exact .inl ⟨r, w', .inl (by simp [h1]), h2⟩

theorem opt_map (ht : TR N L nt T a) (x : Option Operand) : (x.map (ev T) = none ∧ x.map a.eval = none) ∨ ∃ y v, x.map (ev T) = some y ∧ x.map a.eval = some v ∧ VA N L y v := by
  cases x with
  | none => exact .inl ⟨rfl, rfl⟩
  | some x => exact .inr ⟨_, _, rfl, rfl, ht.eval x⟩

theorem aop_sound (hrel : Rel B R w0 L H w) (ht : TR H.length L nt T a) (o : Oper) (h : aop P T H K o.op) : Out P B R w0 H.length L K w ((execOp a.eval o).run P w) := by
  unfold execOp
  generalize o.op = op at h
  cases op <;> simp only [aop, fA_eq] at h <;> try exact h.elim
  case move x => exact Out.value hrel (ht.eval x) h
  case assign x => exact Out.value hrel (ht.eval x) h
  case pick c x y =>
    have hc := ht.eval c
    split at h <;> try exact h.elim
    rename_i t hct
    rw [hct] at hc
    obtain hc : a.eval c = .bool t := hc
    simp only [hc]
    replace h := brc_elim h
    cases t
    · exact Out.of_pure (s := (do pure (if ← asBool (.bool false) then a.eval x else a.eval y) : Sem Value)) hrel ⟨_, a.eval y, rfl, ht.eval y, by simpa using h⟩
    · exact Out.of_pure (s := (do pure (if ← asBool (.bool true) then a.eval x else a.eval y) : Sem Value)) hrel ⟨_, a.eval x, rfl, ht.eval x, by simpa using h⟩
  case alloc t =>
    split at h
    · rename_i e hb
      have hz : zval P t = .p (.agg [.nilptr, .nilslc]) := by
        unfold bldT at hb
        split at hb <;> try (cases hb; done)
        split at hb <;> try (cases hb; done)
        split at hb <;> try (cases hb; done)
        assumption
      obtain ⟨z, hzr, hzv⟩ := zval_sound (N := H.length) (L := L) (w := w) hz
      have hcs : z.cells = #[.pointer none, .slice none 0 0] := by
        obtain ⟨vs, rfl, v1, vs1, rfl, hv1, v2, vs2, rfl, hv2, hv3⟩ := hzv
        obtain rfl : v1 = _ := hv1
        obtain rfl : v2 = _ := hv2
        obtain rfl : vs2 = [] := hv3
        rfl
      have hK := snocK_spec (h w.heap.size)
      have hag := upd_agree L ⟨⟨w.heap.size, 0, 1, 2⟩, fun _ => ⟨0, 0, 0, 0⟩⟩ H.length []
      have hrel2 : Rel B R w0 (upd L H.length ⟨⟨w.heap.size, 0, 1, 2⟩, fun _ => ⟨0, 0, 0, 0⟩⟩) (H ++ [.bld t e w.heap.size []]) (w.alloc (.cells z.cells t)) := by
        refine hrel.put (M := []) H.length (.bld t e w.heap.size []) (by simp) (by simp) (fun j hj o1 ho1 => ?_) hag (fun j hj => upd_ne hj) ((Bel.refl B w).alloc hrel.size _)
          (fun b hb => .inl (heap_alloc_lt _ _ _ hb)) (fun b hb => ?_) (fun b (hb : False) => hb.elim) ?_
        · rcases Nat.lt_or_gt_of_ne hj with hl | hg
          · rw [List.getElem?_append_left hl] at ho1
            exact ⟨o1, ho1, (killO_nil o1).symm⟩
          · rw [List.getElem?_eq_none (by simp; omega)] at ho1
            cases ho1
        · rw [upd_self] at hb
          rcases hb with rfl | hb
          · exact ⟨fun hb => Nat.lt_irrefl _ (hrel.size _ hb), by simp, .inl (Nat.le_refl _)⟩
          · exact absurd rfl hb.1
        · rw [upd_self]
          exact ⟨rfl, _, _, by rw [hcs]; exact heap_alloc_eq _ _, .inl rfl, World.ownsRow_nil _ _ _ _, rfl, (fun hh => by cases hh), fun _ => rfl⟩
      refine .inl ⟨.pointer (some ⟨w.heap.size, 0, none⟩), w.alloc (.cells z.cells t), .inl ?_, _, _, [], _, hag, by simp, ?_, hrel2, hK⟩
      · simp only [Instr.alloc, Sem.run_bind, hzr, Result.andThen_ok, Sem.run_pure]
        rfl
      · rfl
    have h0 := h
    unfold boxA at h0
    split at h0 <;> try exact h0.elim
    rename_i y hz
    obtain ⟨z, hzr, hzv⟩ := zval_sound (N := H.length) (L := L) (w := w) hz
    refine Out.box (t := t) (x := zval P t) (v := z) hrel (by rw [hz]; exact hzv) h fun u w' hr => ?_
    simp only [Instr.alloc, Sem.run_bind, hzr, Result.andThen_ok, hr, Sem.run_pure]
  case box t x =>
    refine Out.box (t := t) hrel (ht.eval x) h fun u w' hr => ?_
    simp only [Instr.box, Sem.run_bind, hr, Result.andThen_ok, Sem.run_pure]
  case build t parts => exact Out.of_pure hrel (build_sound ht h)
  case load t x =>
    obtain ⟨y, u, h1, h2, h3⟩ := load_sound (P := P) hrel (ht.eval x) h
    exact Out.of_pure hrel ⟨.p y, u, h1, h2, h3⟩
  case store t x y =>
    obtain ⟨w', H', h1, h2, h3, h4⟩ := store_sound (P := P) hrel (ht.eval x) (ht.eval y) h
    refine .inl ⟨undef, w', .inr ⟨?_, rfl⟩, L, undefA, [], H', Agree.refl _ _ _, by omega, ⟨[], rfl, rfl⟩, h3, h4⟩
    simp only [Sem.run_bind, h1, Result.andThen_ok, Sem.run_pure]
  case nilCheck x =>
    have hx := ht.eval x
    split at h <;> try exact h.elim
    all_goals
      rename_i hxe
      rw [hxe] at hx
      have hx' := hx
      obtain ⟨hv, hae⟩ := hx
      simp only [hae]
      rw [hae] at hx'
      exact Out.value hrel hx' h
  case binOp op t x y ty => exact Out.of_pure hrel (bin_sound (ht.eval x) (ht.eval y) h)
  case unOp op t x => exact Out.of_pure hrel (un_sound (ht.eval x) h)
  case convert s d x => exact Out.of_pure hrel (conv_sound (ht.eval x) h)
  case makeInterface t x => exact Out.of_pure hrel (mkIface_sound (ht.eval x) h)
  case fieldAddr t x i => exact Out.of_pure hrel (fieldAddr_sound (ht.eval x) h)
  case extract x i => exact Out.of_pure hrel (extract_sound (ht.eval x) h)
  case field t x i => exact Out.of_pure hrel (field_sound (ht.eval x) h)
  case indexAddr t x i => exact Out.of_pure hrel (indexAddr_sound hrel (ht.eval x) (ht.eval i) h)
  case index t x i => exact Out.of_pure hrel (index_sound (ht.eval x) (ht.eval i) h)
  case slice t x lo hi mx => exact Out.of_pure hrel (slice_sound hrel (ht.eval x) (opt_map ht lo) (opt_map ht hi) (opt_map ht mx) h)
  case makeSlice t l c =>
    exact Out.left (makeSlice_sound hrel (ht.eval l) (ht.eval c) h)
  case buildSlice t n parts =>
    have hv2 : VAs H.length L ((parts.toList.map fun p => (p.1, ev T p.2)).map (·.2)) (((parts.map fun (i, x) => (i, a.eval x)).toList).map (·.2)) := by
      have := VAs.map_ev ht (parts.toList.map (·.2))
      simpa [Function.comp_def] using this
    split at h
    · rename_i sz hsz
      exact Out.left (build2_sound hrel hsz (by simp [Function.comp_def]) hv2 h)
    · exact Out.left (buildSlice_sound hrel (by simp [Function.comp_def]) hv2 h)
  case makeMap t r =>
    obtain ⟨u, w', L', y, H', h1, h2, h3, h4, h5, h6⟩ := makeMap_sound (P := P) (f := a.eval) hrel h
    exact Out.left ⟨u, w', h1, L', y, [], H', h2, h3, h5, h4, h6⟩
  case lookup t x i ok => exact Out.of_pure hrel (lookup_sound hrel (ht.eval x) (ht.eval i) h)
  case mapUpdate t x i y =>
    obtain ⟨w', H', h1, h2, h3, h4⟩ := update_sound (P := P) hrel (ht.eval x) (ht.eval i) (ht.eval y) h
    refine .inl ⟨undef, w', .inr ⟨?_, rfl⟩, L, undefA, [], H', Agree.refl _ _ _, by omega, ⟨[], rfl, rfl⟩, h3, h4⟩
    simp only [Sem.run_bind, h1, Result.andThen_ok, Sem.run_pure]
  case mapEntry t x i =>
    obtain ⟨w', H', y, z, h1, h2, h3, h4, h5⟩ := entry_sound (P := P) hrel (ht.eval x) (ht.eval i) h
    exact Out.left ⟨z, w', h1, L, y, [], H', Agree.refl _ _ _, by omega, by rw [h2]; exact h4, h3, h5⟩
  case entryStore t x b y =>
    obtain ⟨w', H', h1, h2, h3, h4⟩ := entryStore_sound (P := P) (t := t) hrel (ht.eval x) (ht.eval b) (ht.eval y) h
    refine .inl ⟨undef, w', .inr ⟨?_, rfl⟩, L, undefA, [], H', Agree.refl _ _ _, by omega, ⟨[], rfl, rfl⟩, h3, h4⟩
    simp only [Sem.run_bind, h1, Result.andThen_ok, Sem.run_pure]
  case range t x =>
    obtain ⟨u, w', L', y, H', h1, h2, h3, h4, h5, h6⟩ := range_sound (P := P) hrel (ht.eval x) h
    exact Out.left ⟨u, w', h1, L', y, [], H', h2, h3, h5, h4, h6⟩
  case next x s =>
    cases s with
    | true => exact h.elim
    | false =>
      obtain ⟨u, w', y, H', h1, h2, h3, h4, h5⟩ := next_sound (P := P) (ty := o.type) hrel (ht.eval x) h
      exact Out.left ⟨u, w', h1, L, y, [], H', Agree.refl _ _ _, by omega, by rw [h2]; exact h4, h3, h5⟩
  case entry x =>
    obtain ⟨y, u, h1, h2, h3⟩ := entAt_sound (P := P) hrel (ht.eval x) h
    exact Out.of_pure hrel ⟨y, u, h1, h2, h3⟩
  case makeFunc f first caps =>
    split at h <;> try exact h.elim
    rename_i g hfirst
    have h := evs_spec h
    split at h <;> try exact h.elim
    rename_i l hl
    obtain ⟨h1, h2⟩ := capsOf_sound hl (VAs.map_ev ht caps.toList)
    have hf : first = #[] := by apply Array.ext'; simpa using hfirst
    refine Out.of_pure hrel ⟨cv (.func g l), _, rfl, ?_, h⟩
    refine ⟨h1, ?_⟩
    subst hf
    simp only [Array.map_empty]
    congr 1
    apply Array.ext'
    simpa using h2
  case call c =>
    obtain ⟨callee, args, tys⟩ := c
    dsimp only at h
    split at h <;> try exact h.elim
    rotate_left
    · rename_i b
      have h2 := evs_spec h
      clear h
      have h := h2
      clear h2
      have hv := VAs.map_ev ht args.toList
      simp only [resolve, Sem.run_bind, Sem.run_pure, Result.andThen_ok, invoke]
      unfold builtinA at h
      split at h <;> try exact h.elim
      · rename_i x hx
        split at h <;> try exact h.elim
        rename_i t htys
        rw [hx] at hv
        obtain ⟨y, ys, h1, h2, h3⟩ := hv
        simp only [VAs] at h3
        subst h3
        have ha : args.map a.eval = #[y] := by apply Array.ext'; simpa using h1
        have htt : tys = #[t] := by apply Array.ext'; simpa using htys
        rw [ha, htt]
        exact Out.of_pure hrel (lenH_sound hrel h2 h)
      · rename_i s x hx
        rw [hx] at hv
        obtain ⟨y, ys, h1, h2, z, zs, h3, h4, h5⟩ := hv
        simp only [VAs] at h5
        subst h5; subst h3
        have ha : args.map a.eval = #[y, z] := by apply Array.ext'; simpa using h1
        rw [ha]
        split at h
        · have := append2_sound (P := P) (ty := o.type) hrel h2 h4 h
          rw [show tys.toList.toArray = tys from by simp] at this
          exact Out.left this
        · split at h
          · have := append3_sound (P := P) (ty := o.type) hrel h2 h4 h
            rw [show tys.toList.toArray = tys from by simp] at this
            exact Out.left this
          · obtain rfl := h2
            obtain rfl := h4
            rename_i k m
            have := grow_sound (P := P) (ty := o.type) (k := k) hrel h
            rw [show tys.toList.toArray = tys from by simp] at this
            exact Out.left this
          · have := append_sound (P := P) (ty := o.type) hrel h2 h4 h
            rw [show tys.toList.toArray = tys from by simp] at this
            exact Out.left this
      · rename_i x hx
        rw [hx] at hv
        obtain ⟨y, ys, h1, h2, h3⟩ := hv
        simp only [VAs] at h3
        subst h3
        have ha : args.map a.eval = #[y] := by apply Array.ext'; simpa using h1
        rw [ha]
        split at h <;> try exact h.elim
        rename_i t htys
        simp only [cond_eq_ite] at h
        split at h <;> try exact h.elim
        rename_i he
        obtain ⟨e, he⟩ := Option.isSome_iff_exists.1 he
        have htt : tys = #[t] := by apply Array.ext'; simpa using htys
        rw [htt]
        obtain rfl := h2
        refine Out.of_pure hrel ⟨_, _, ?_, VA.intv, h⟩
        simp [Builtin.cap_, run_underlying_some (elemT_spec he), goInt]
      · rename_i x hx
        rw [hx] at hv
        obtain ⟨y, ys, h1, h2, h3⟩ := hv
        simp only [VAs] at h3
        subst h3
        have ha : args.map a.eval = #[y] := by apply Array.ext'; simpa using h1
        rw [ha]
        obtain ⟨w', H', k1, k2, k3, k4⟩ := clear_sound (P := P) (ty := o.type) hrel h2 h
        rw [show tys.toList.toArray = tys from by simp] at k1
        exact Out.left ⟨_, w', k1, L, undefA, [], H', Agree.refl _ _ _, k2, ⟨[], rfl, rfl⟩, k3, k4⟩
      · rename_i x y hx
        rw [hx] at hv
        obtain ⟨v, us, h1, h2, u, zs, h3, h4, h5⟩ := hv
        simp only [VAs] at h5
        subst h5; subst h3
        have ha : args.map a.eval = #[v, u] := by apply Array.ext'; simpa using h1
        rw [ha]
        obtain ⟨w', H', k1, k2, k3, k4⟩ := delete_sound (P := P) (ty := o.type) hrel h2 h4 h
        exact Out.left ⟨_, w', k1, L, undefA, [], H', Agree.refl _ _ _, by omega, ⟨[], rfl, rfl⟩, k3, k4⟩
      · rename_i x y hx
        rw [hx] at hv
        obtain ⟨v, us, h1, h2, u, zs, h3, h4, h5⟩ := hv
        simp only [VAs] at h5
        subst h5; subst h3
        have ha : args.map a.eval = #[v, u] := by apply Array.ext'; simpa using h1
        rw [ha]
        have := copy_sound (P := P) (ty := o.type) hrel h2 h4 h
        rw [show tys.toList.toArray = tys from by simp] at this
        exact Out.left this
      · rename_i x y hx
        rw [hx] at hv
        obtain ⟨v, us, h1, h2, u, zs, h3, h4, h5⟩ := hv
        simp only [VAs] at h5
        subst h5; subst h3
        have ha : args.map a.eval = #[v, u] := by apply Array.ext'; simpa using h1
        rw [ha]
        split at h <;> try exact h.elim
        obtain rfl := h2
        obtain rfl := h4
        exact Out.of_pure hrel ⟨_, _, rfl, VA.intv, h⟩
      · rename_i x y hx
        rw [hx] at hv
        obtain ⟨v, us, h1, h2, u, zs, h3, h4, h5⟩ := hv
        simp only [VAs] at h5
        subst h5; subst h3
        have ha : args.map a.eval = #[v, u] := by apply Array.ext'; simpa using h1
        rw [ha]
        split at h <;> try exact h.elim
        obtain rfl := h2
        obtain rfl := h4
        exact Out.of_pure hrel ⟨_, _, rfl, VA.intv, h⟩
    rename_i f
    have hf := ht.eval f
    split at h <;> try exact h.elim
    rename_i g cap hfe
    rw [hfe] at hf
    obtain ⟨hcs, hfv⟩ := hf
    have h := addK_spec (capsK_spec (evs_spec h))
    obtain ⟨fn, h1, h2, h3⟩ := h.fn
    right
    have hcap : VAs H.length L (cap.map fun r => cv (.ptr r 0)) (cap.map fun r => Value.pointer (some ((L r).h.at 0 0))) := by
      exact VAs.caps cap hcs
    refine ⟨g, (args.toList.map a.eval ++ cap.map fun r => Value.pointer (some ((L r).h.at 0 0))).toArray, ?_, h.run B R w0 L w _ hrel (VAs.append (VAs.map_ev ht _) hcap)⟩
    simp only [resolve, Sem.run_bind, hfv, Deferred.ofValue, Sem.run_pure, Result.andThen_ok, invoke]
    rw [run_callFunc h1 h2 h3]
    congr 2
    apply Array.ext'
    simp

/-- The same, with conversions into new rows. -/
theorem aopX_sound (hrel : Rel B R w0 L H w) (ht : TR H.length L nt T a) (o : Oper) (h : aopX P T H K o.op) : Out P B R w0 H.length L K w ((execOp a.eval o).run P w) := by
  by_cases hop : ∃ s d x, o.op = .convert s d x
  · obtain ⟨s, d, x, hop⟩ := hop
    rw [hop] at h
    unfold execOp
    rw [hop]
    simp only [aopX] at h
    have hx := ht.eval x
    unfold convX at h
    split at h
    · rename_i e t he hxe
      rw [hxe] at hx
      simp only [cond_eq_ite, Bool.and_eq_true] at h
      split at h <;> try exact h.elim
      rename_i hc
      obtain ⟨ds, hds⟩ := Option.isSome_iff_exists.1 hc.1
      obtain hx : a.eval x = .string ⟨t.toArray⟩ := hx
      simp only [hx]
      exact Out.left (strBytes_sound hrel hds (elemT_spec he) (isU8_spec hc.2) (snocK_spec h))
    · rename_i r o' n c nn he hxe
      rw [hxe] at hx
      split at h <;> try exact h.elim
      rename_i e hd hs
      simp only [cond_eq_ite, Bool.and_eq_true] at h
      split at h <;> try exact h.elim
      rename_i hc
      obtain ⟨t, h1, h2⟩ := bytesStr_sound (k := fun t => K (st t) [] H) hrel hd (elemT_spec hs) (isU8_spec hc.1.1) (Nat.eq_of_beq_eq_true hc.1.2) hc.2 hx h
      exact Out.of_pure hrel ⟨st t, _, h1, rfl, h2⟩
    · rename_i he hxe
      rw [hxe] at hx
      split at h <;> try exact h.elim
      rename_i e hd hs
      simp only [cond_eq_ite] at h
      split at h <;> try exact h.elim
      rename_i hc
      obtain hx : a.eval x = .slice none 0 0 := hx
      simp only [hx]
      refine Out.of_pure hrel ⟨st [], .string .empty, ?_, rfl, h⟩
      simp [convert, run_underlying_some hd, run_underlying_some (elemT_spec hs), run_underlying_some (isU8_spec hc), Conv.bytesToString]
    · exact Out.of_pure hrel (conv_sound hx h)
  · refine aop_sound hrel ht o ?_
    have : aopX P T H K o.op = aop P T H K o.op := by
      cases ho : o.op <;> first | rfl | exact absurd ⟨_, _, _, ho⟩ hop
    rwa [this] at h

/-! ### Regions -/

theorem addM_eq (M' M : List Nat) (k : List Nat → Prop) : addM M' M k = k (M' ++ M) := by cases M' <;> rfl

theorem wanted_sound (ht : TR N L nt T a) {ops : Array Oper} {o : Oper} {j : Nat} {want : Bool} (hg : o.guard = some (j, want)) {d : Nat}
    (hd : (nth ops.toList j).bind (·.dst) = some d) :
    (∀ b, lk T d = bl b → Region.wanted o (yielded ops a.tmps) = decide (b = want)) ∧ (lk T d = .tup [] → Region.wanted o (yielded ops a.tmps) = false) := by
  have hd' : (ops[j]?).bind (·.dst) = some d := by rw [← hd, nth_eq]; simp
  have hv := ht.get d
  constructor
  · intro b hb
    rw [hb] at hv
    obtain hv : a.tmps.getD d undef = .bool b := hv
    have : a.tmps[d]? = some (.bool b) := by
      rw [Array.getD_eq_getD_getElem?] at hv
      cases hx : a.tmps[d]? with
      | none => rw [hx] at hv; simp [undef] at hv
      | some x => rw [hx] at hv; simpa using hv
    simp only [Region.wanted, hg, yielded, hd', Option.bind_some, this]
    cases b <;> cases want <;> rfl
  · intro hb
    rw [hb] at hv
    obtain ⟨vs, hv, hvs⟩ := hv
    simp only [VPs] at hvs
    subst hvs
    have : ∀ b, a.tmps[d]? ≠ some (.bool b) := by
      intro b hx
      rw [Array.getD_eq_getD_getElem?, hx] at hv
      cases hv
    have hy : yielded ops a.tmps j = none := by
      unfold yielded
      rw [hd']
      simp only [Option.bind_some]
      try (split
           · rename_i b hx; exact absurd hx (this b)
           · rfl)
    simp [Region.wanted, hg, hy]

theorem TR.known (ht : TR N L nt T a) {d : Nat} {b : Bool} (h : lk T d = bl b) : TR N L nt ((d, bl b) :: T) a :=
  ⟨fun i => by
    rw [lk_cons]
    split
    · rename_i hd; subst hd; rw [← h]; exact ht.get d
    · exact ht.get i, ht.defers, ht.room⟩

theorem TR.setC (ht : TR N L nt T a) {c : Operand} {b : Bool} (h : ev T c = bl b) : TR N L nt (setC c b T) a := by
  cases c with
  | tmp d => exact ht.known h
  | const _ => exact ht
  | global _ => exact ht
  | func _ => exact ht

theorem runOps_sound {N0 : Nat} {L0 : Nat → Loc} {ops : Array Oper} {Q : Exit → Act → World → Prop} : ∀ (rest : List Oper) (k : Nat) (T : Tm) (M : List Nat) (H : List PO) (K : Tm → List Nat → List PO → Prop) (L : Nat → Loc) (w : World) (a : Act),
    (∀ j, rest[j]? = ops[k + j]?) → N0 ≤ H.length → Agree N0 M L0 L → Rel B R w0 L H w → TR H.length L nt T a → runOps P nt ops.toList rest T M H K →
    (∀ L' T' M' H' w' a', N0 ≤ H'.length → Agree N0 M' L0 L' → Rel B R w0 L' H' w' → TR H'.length L' nt T' a' → K T' M' H' → Q .normal a' w') →
    wpOps P ops Q (List.range' k rest.length) a w
  | [], k, T, M, H, K, L, w, a, _, hN, hag, hrel, ht, h, hQ => by
    simp only [List.length_nil, List.range'_zero, wpOps]
    exact hQ L T M H w a hN hag hrel ht h
  | o :: rest, k, T, M, H, K, L, w, a, hops, hN, hag, hrel, ht, h, hQ => by
    have h0 : ops[k]? = some o := by simpa using (hops 0).symm
    have hrest : ∀ j, rest[j]? = ops[k + 1 + j]? := fun j => by
      have := hops (j + 1)
      simpa [Nat.add_assoc, Nat.add_comm 1 j] using this
    simp only [List.length_cons, List.range'_succ, wpOps, h0]
    have doit : ∀ T, TR H.length L nt T a → aopX P T H (fun v M' H' => killT M' T fun T' => putT nt T' o.dst v fun T'' => addM M' M fun M'' => runOps P nt ops.toList rest T'' M'' H' K) o.op →
        o.wp P a w (wpOps P ops Q (List.range' (k + 1) rest.length)) Q := by
      intro T ht h
      have hout := aopX_sound hrel ht o h
      have next : ∀ v w', Left B R w0 H.length L (fun v M' H' => killT M' T fun T' => putT nt T' o.dst v fun T'' => addM M' M fun M'' => runOps P nt ops.toList rest T'' M'' H' K) v w' →
          wpOps P ops Q (List.range' (k + 1) rest.length) (a.put o.dst v) w' := by
        rintro v w' ⟨L', x, M', H', hag', hle, hx, hrel', hK⟩
        obtain ⟨T', hK, ht'⟩ := TR.kill hK ht hle hag'
        obtain ⟨T'', hK, ht''⟩ := putT_spec hK ht' hx
        rw [addM_eq] at hK
        refine runOps_sound rest (k + 1) T'' _ H' K L' w' _ hrest (by omega) ?_ hrel' ht'' hK hQ
        exact hag.trans hN hag'
      unfold Oper.wp
      rcases hout with ⟨v, w', hr, hleft⟩ | ⟨f, args, hr, hcall⟩
      · rcases hr with hr | ⟨hr, rfl⟩
        · rw [hr]; exact next v w' hleft
        · rw [hr]; exact next undef w' hleft
      · rw [hr]
        simp only [Oper.upon]
        refine hcall.mono ?_
        rintro e w' ⟨v, rfl, hleft⟩
        exact next v w' hleft
    have skip : ∀ T, TR H.length L nt T a → (putT nt T o.dst undefA fun T'' => runOps P nt ops.toList rest T'' M H K) → wpOps P ops Q (List.range' (k + 1) rest.length) (a.put o.dst undef) w := by
      intro T ht h
      obtain ⟨T'', hK, ht''⟩ := putT_spec (x := undefA) h ht (v := undef) ⟨[], rfl, rfl⟩
      exact runOps_sound rest (k + 1) T'' M H K L w _ hrest hN hag hrel ht'' hK hQ
    unfold runOps at h
    split at h
    · rename_i hg
      rw [if_pos (by simp [Region.wanted, hg])]
      exact .inl (doit T ht h)
    · rename_i j want hg
      split at h <;> try exact h.elim
      rename_i d hd
      obtain ⟨hw1, hw2⟩ := wanted_sound ht hg hd
      split at h <;> try exact h.elim
      · rename_i b hb
        have hw := hw1 b hb
        replace h := brc_elim h
        have htk := ht.known hb
        cases b <;> cases want <;> simp at h hw
        · rw [if_pos hw]; exact .inl (doit _ htk h)
        · rw [if_neg (by simp [hw])]; exact skip _ htk h
        · rw [if_neg (by simp [hw])]; exact skip _ htk h
        · rw [if_pos hw]; exact .inl (doit _ htk h)
      · rename_i hb
        rw [if_neg (by simp [hw2 hb])]
        exact skip T ht h

/-! ### Statements -/

variable {N0 : Nat} {M : List Nat} {Q : Ex → Tm → List Nat → List PO → Prop}

theorem SS.mono {c : Code} {Q' : Ex → Tm → List Nat → List PO → Prop} (h : SS P nt N0 c T M H Q) (hq : ∀ e T M H, Q e T M H → Q' e T M H) : SS P nt N0 c T M H Q' :=
  ⟨fun B R w0 L0 L w a R0 h1 h2 h3 h4 h5 => h.run B R w0 L0 L w a R0 h1 h2 h3 h4 fun e L' T' M' H' w' a' k1 k2 k3 k4 k5 => h5 e L' T' M' H' w' a' k1 k2 k3 k4 (hq _ _ _ _ k5)⟩

theorem SS.seq {x y : Code} (h : SS P nt N0 x T M H fun e T' M' H' => match e with
      | .normal => SS P nt N0 y T' M' H' Q
      | e => Q e T' M' H') : SS P nt N0 (.seq x y) T M H Q :=
  ⟨fun B R w0 L0 L w a R0 h1 h2 h3 h4 h5 => wp_seq (h.run B R w0 L0 L w a _ h1 h2 h3 h4 fun e L' T' M' H' w' a' k1 k2 k3 k4 k5 => by
    cases e with
    | normal => exact k5.run B R w0 L0 L' w' a' R0 k1 k2 k3 k4 h5
    | exit i => exact h5 (.exit i) L' T' M' H' w' a' k1 k2 k3 k4 k5
    | ret => exact h5 .ret L' T' M' H' w' a' k1 k2 k3 k4 k5)⟩

theorem S_ok : ∀ (c : Code) (T : Tm) (M : List Nat) (H : List PO) (Q : Ex → Tm → List Nat → List PO → Prop), S P nt N0 c T M H Q → SS P nt N0 c T M H Q := by
  intro c
  induction c with
  | skip => exact fun T M H Q h => ⟨fun B R w0 L0 L w a R0 h1 h2 h3 h4 h5 => wp_skip (h5 .normal L T M H w a h1 h2 h3 h4 h)⟩
  | label l => exact fun T M H Q h => ⟨fun B R w0 L0 L w a R0 h1 h2 h3 h4 h5 => wp_label (h5 .normal L T M H w a h1 h2 h3 h4 h)⟩
  | exit id => exact fun T M H Q h => ⟨fun B R w0 L0 L w a R0 h1 h2 h3 h4 h5 => wp_exit (h5 (.exit id) L T M H w a h1 h2 h3 h4 h)⟩
  | ret => exact fun T M H Q h => ⟨fun B R w0 L0 L w a R0 h1 h2 h3 h4 h5 => wp_ret (h5 .ret L T M H w a h1 h2 h3 h4 h)⟩
  | goto l => intro T M H Q h; exact h.elim
  | scope b ih => intro T M H Q h; exact h.elim
  | rangeFunc f ps x y ih1 ih2 => intro T M H Q h; exact h.elim
  | refuse s => intro T M H Q h; exact h.elim
  | loop c ih => exact fun T M H Q h => h
  | region id ops draw =>
    intro T M H Q h
    cases draw with
    | true => exact h
    | false =>
      refine ⟨fun B R w0 L0 L w a R0 h1 h2 h3 h4 h5 => wp_region ?_⟩
      have := runOps_sound (Q := R0) ops.toList 0 T M H _ L w a (by simp) h1 h2 h3 h4 h fun L' T' M' H' w' a' k1 k2 k3 k4 k5 => h5 .normal L' T' M' H' w' a' k1 k2 k3 k4 k5
      rwa [Array.length_toList, ← List.range_eq_range'] at this
  | seq x y ih1 ih2 =>
    intro T M H Q h
    simp only [S] at h
    split at h
    · refine SS.seq ((ih1 T M H _ h).mono fun e T' M' H' hq => ?_)
      cases e with
      | normal => exact ih2 _ _ _ _ hq
      | exit i => exact hq
      | ret => exact hq
    · exact h
  | cond c x y ih1 ih2 =>
    intro T M H Q h
    refine ⟨fun B R w0 L0 L w a R0 h1 h2 h3 h4 h5 => ?_⟩
    unfold S at h
    have hc := h4.eval c
    split at h <;> try exact h.elim
    rename_i t hct
    rw [hct] at hc
    refine wp_cond hc ?_
    replace h := brc_elim h
    cases t
    · exact (ih2 _ M H Q (by simpa using h)).run B R w0 L0 L w a R0 h1 h2 h3 (h4.setC hct) h5
    · exact (ih1 _ M H Q (by simpa using h)).run B R w0 L0 L w a R0 h1 h2 h3 (h4.setC hct) h5
  | block id c ih =>
    intro T M H Q h
    refine ⟨fun B R w0 L0 L w a R0 h1 h2 h3 h4 h5 => wp_block ((ih T M H _ h).run B R w0 L0 L w a _ h1 h2 h3 h4 ?_)⟩
    intro e L' T' M' H' w' a' k1 k2 k3 k4 k5
    cases e with
    | normal => exact h5 .normal L' T' M' H' w' a' k1 k2 k3 k4 k5
    | exit j =>
      simp only [Ex.real, Exit.inBlock]
      dsimp only at k5
      split at k5
      · rename_i hj; rw [if_pos (Nat.eq_of_beq_eq_true hj)]; exact h5 .normal L' T' M' H' w' a' k1 k2 k3 k4 k5
      · rename_i hj; rw [if_neg (Nat.ne_of_beq_eq_false hj)]; exact h5 (.exit j) L' T' M' H' w' a' k1 k2 k3 k4 k5
    | ret => exact h5 .ret L' T' M' H' w' a' k1 k2 k3 k4 k5

end
end Go.Mac
end
