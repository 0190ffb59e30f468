/- What comes later leaves what was answered as it was: LinGrows. -/
import Derived.Test.YtlimhldkkbaohaaDoorGLinB
open Go Go.Proofs Go.Mac
set_option maxRecDepth 100000
namespace Go.Mac

/-- A machine later on: what is new is later. -/
def Gr (m m' : MZ) : Prop := ∃ ae ee, m'.al = m.al ++ ae ∧ m'.el = m.el ++ ee ∧ (∀ a ∈ ae, (m.k : Int) < a.w) ∧ (∀ e ∈ ee, (m.k : Int) < e.w) ∧ m.k ≤ m'.k

theorem Gr.refl (m : MZ) : Gr m m := ⟨[], [], by simp, by simp, fun _ h => (by cases h), fun _ h => (by cases h), Nat.le_refl _⟩

theorem Gr.trans {a b c : MZ} (h : Gr a b) (h2 : Gr b c) : Gr a c := by
  obtain ⟨x1, y1, p1, p2, p3, p4, p5⟩ := h
  obtain ⟨x2, y2, q1, q2, q3, q4, q5⟩ := h2
  refine ⟨x1 ++ x2, y1 ++ y2, by rw [q1, p1, List.append_assoc], by rw [q2, p2, List.append_assoc], fun a ha => ?_, fun e he => ?_, by omega⟩
  · rcases List.mem_append.1 ha with ha | ha
    · exact p3 a ha
    · have := q3 a ha; omega
  · rcases List.mem_append.1 he with he | he
    · exact p4 e he
    · have := q4 e he; omega

section
variable {n : Nat} {bs : Nat → List (List InsZ)} {calls : List (List CallZ)} {m : MZ}

theorem LinJ.grow {gs : Nat → GZ} (h : LinJ n bs calls gs m) (hB : ∀ s, s < n → ∀ b ∈ bs s, linB b = true) {t : Nat} (hc : canZ m t = true) (hk : m.k < 20000) : Gr m (stepZ m t).2 := by
  obtain ⟨ws, hS⟩ := h.sys
  obtain ⟨ht, hd, _⟩ := hS.can hc
  obtain ⟨p1, p2, p3, p4⟩ := h.pl t ht
  have key : ∃ e, (stepZ m t).2.al = effWA (m.k + 1) t m.al e ∧ (stepZ m t).2.el = effWE (m.k + 1) t m.el e ∧ (stepZ m t).2.k = m.k + 1 := by
    rcases Nat.lt_or_ge (gs t).j (bs t).length with hj | hj
    · obtain ⟨b, hb⟩ : ∃ b, (bs t)[(gs t).j]? = some b := ⟨_, List.getElem?_eq_getElem hj⟩
      obtain ⟨i, hi⟩ : ∃ i, b[(gs t).y.pc]? = some i := ⟨_, List.getElem?_eq_getElem (p2 b hb)⟩
      obtain ⟨q1, _⟩ := linB_at (hB t ht b (List.mem_of_getElem? hb)) hi
      have hig : insG (bs t) (gs t) = some i := by
        rw [insG, hb]
        exact hi
      obtain ⟨y', ws', e, hnx⟩ : ∃ y' ws' e, nextW i (gs t).y ws = (y', ws', e) := ⟨_, _, _, rfl⟩
      obtain ⟨_, _, hal, hel, hk'⟩ := hS.go hc hk hig (cellK_ok q1) hnx
      exact ⟨e, hal, hel, hk'⟩
    · have hje : (gs t).j = (bs t).length := by omega
      have hnone : (bs t)[(gs t).j]? = none := List.getElem?_eq_none (by omega)
      have hig : insG (bs t) (gs t) = some ⟨0, 0, 0, 0, 0⟩ := by
        rw [insG, hnone]
        exact if_pos ⟨hje, p3 hje hd⟩
      obtain ⟨_, _, hal, hel, hk'⟩ := hS.go hc hk hig (.inl rfl) (y' := ⟨(gs t).y.pc + 1, (gs t).y.rg, true⟩) (ws' := ws) (e := .no) rfl
      exact ⟨_, hal, hel, hk'⟩
  obtain ⟨e, hal, hel, hk'⟩ := key
  have one : ((m.k : Nat) : Int) < ((m.k + 1 : Nat) : Int) := by omega
  cases e with
  | act o c x y => exact ⟨_, [], hal, by rw [hel, List.append_nil]; rfl, fun a ha => by rw [List.mem_singleton.1 ha]; exact one, fun _ h => (by cases h), by omega⟩
  | say a x => exact ⟨[], _, by rw [hal, List.append_nil]; rfl, hel, fun _ h => (by cases h), fun e he => by rw [List.mem_singleton.1 he]; exact one, by omega⟩
  | _ => exact ⟨[], [], by rw [hal, List.append_nil]; rfl, by rw [hel, List.append_nil]; rfl, fun _ h => (by cases h), fun _ h => (by cases h), by omega⟩

theorem LinI.grow (h : LinI n bs calls m) (hB : ∀ s, s < n → ∀ b ∈ bs s, linB b = true) (t : Int) : Gr m (stepZ m t).2 := by
  obtain ⟨gs, h⟩ := h
  obtain ⟨ws, hS⟩ := h.sys
  rcases step_or hS.wf t with e | ⟨s, rfl, hc, hk⟩
  · rw [e]; exact Gr.refl m
  · exact h.grow hB hc hk

end

/-! ### What is answered stays, what is not grows -/

theorem prevT_app {ws : List Int} {k : Nat} (h : k ≤ ws.length) (vs : List Int) : prevT (ws ++ vs) k = prevT ws k := by
  rw [prevT, prevT]
  split
  · rfl
  · rw [List.getD_eq_getElem?_getD, List.getD_eq_getElem?_getD, List.getElem?_append_left (by omega)]

theorem endT_app (t : Nat) (a b : List EvZ) : endT t (a ++ b) = endT t a ++ endT t b := by
  rw [endT, List.filter_append, List.map_append]
  rfl

def efFold (t frm to : Int) (done : Bool) (s : EfS) (l : List ActZ) : EfS := l.foldl (fun s a => if hitB t frm to done a = true then efStep s a else s) s

theorem efRun_app (t frm to : Int) (done : Bool) (a b : List ActZ) : efRun t frm to done (a ++ b) = efFold t frm to done (efRun t frm to done a) b := by
  rw [efRun, List.foldl_append]
  rfl

theorem efFold_none {t frm to : Int} {done : Bool} {s : EfS} : ∀ {l : List ActZ}, (∀ a ∈ l, hitB t frm to done a = false) → efFold t frm to done s l = s
  | [], _ => rfl
  | a :: l, h => by
    show efFold t frm to done (if hitB t frm to done a = true then efStep s a else s) l = s
    rw [h a (by simp), if_neg (by decide)]
    exact efFold_none fun x hx => h x (List.mem_cons_of_mem _ hx)

theorem efRun_same {t frm to : Int} {l : List ActZ} (h : ∀ a ∈ l, a.w < to) : efRun t frm to true l = efRun t frm 9223372036854775807 false l := by
  have : ∀ (l : List ActZ) (s : EfS), (∀ a ∈ l, a.w < to) → efFold t frm to true s l = efFold t frm 9223372036854775807 false s l := by
    intro l
    induction l with
    | nil => intro s _; rfl
    | cons a l ih =>
      intro s h
      have e : hitB t frm to true a = hitB t frm 9223372036854775807 false a := by
        have := h a (by simp)
        rw [hitB, hitB, decide_eq_false (show ¬ a.w ≥ to by omega)]
        rfl
      show efFold t frm to true (if hitB t frm to true a = true then efStep s a else s) l = efFold t frm 9223372036854775807 false (if hitB t frm 9223372036854775807 false a = true then efStep s a else s) l
      rw [e]
      exact ih _ fun x hx => h x (List.mem_cons_of_mem _ hx)
  exact this l .s0 h

def chgS : EfS → Bool
  | .s2 _ => true
  | .s3 _ _ => true
  | _ => false

theorem chg_step {s : EfS} (a : ActZ) (h : chgS s = true) : chgS (efStep s a) = true := by
  unfold efStep
  split
  · rfl
  · cases s <;> first | exact h | rfl

theorem chg_fold {t frm to : Int} {done : Bool} : ∀ {l : List ActZ} {s : EfS}, chgS s = true → chgS (efFold t frm to done s l) = true
  | [], _, h => h
  | a :: l, s, h => by
    show chgS (efFold t frm to done (if hitB t frm to done a = true then efStep s a else s) l) = true
    refine chg_fold ?_
    split
    · exact chg_step a h
    · exact h

theorem pts_no {t k w : Int} {s : EfS} (h : chgS s = false) : efPts t k w false s = [] := by
  cases s <;> simp [efPts, chgS] at h ⊢

theorem pts_one {t k w : Int} {s : EfS} : (efPts t k w false s).length ≤ 1 := by
  cases s <;> simp [efPts]

theorem pts_some {t k w : Int} {done : Bool} {s : EfS} (h : chgS s = true) : 1 ≤ (efPts t k w done s).length := by
  cases s <;> simp only [chgS] at h <;> (try cases h) <;> simp only [efPts] <;> split <;> simp

theorem flat_le {f g : Nat → List PtZ} : ∀ {L : List Nat}, (∀ x ∈ L, (f x).length ≤ (g x).length) → ((L.map f).flatten).length ≤ ((L.map g).flatten).length
  | [], _ => Nat.le_refl _
  | x :: L, h => by
    have h1 := h x (by simp)
    have h2 := flat_le (L := L) fun y hy => h y (List.mem_cons_of_mem _ hy)
    rw [List.map_cons, List.map_cons, List.flatten_cons, List.flatten_cons, List.length_append, List.length_append]
    omega

section
variable {calls : List (List CallZ)} {m m' : MZ}

/-- A call's points, later: if it was answered they are the same, else there are no fewer. -/
theorem call_later (hG : Gr m m') (hal : ∀ a ∈ m.al, a.w ≤ m.k) (hel : ∀ e ∈ m.el, e.w ≤ m.k) (t : Nat) (cs : List CallZ) (k : Nat) :
    (k < (endT t m.el).length → callPts t m'.al cs (endT t m'.el) k = callPts t m.al cs (endT t m.el) k) ∧ (callPts t m.al cs (endT t m.el) k).length ≤ (callPts t m'.al cs (endT t m'.el) k).length := by
  obtain ⟨ae, ee, h1, h2, h3, h4, _⟩ := hG
  rw [h1, h2, endT_app]
  have hnew : ∀ w ∈ endT t ee, (m.k : Int) < w := fun w hw => by obtain ⟨e, he, rfl⟩ := endT_mem hw; exact h4 e he
  have hold : ∀ w ∈ endT t m.el, w ≤ m.k := fun w hw => by obtain ⟨e, he, rfl⟩ := endT_mem hw; exact hel e he
  generalize endT t m.el = ws at hold
  generalize endT t ee = vs at hnew
  have answered : k < ws.length → callPts t (m.al ++ ae) cs (ws ++ vs) k = callPts t m.al cs ws k := fun hk => by
    rw [callPts, callPts]
    cases cs[k]? with
    | none => rfl
    | some c =>
      dsimp only
      have hw := List.getElem?_eq_getElem hk
      rw [List.getElem?_append_left hk, hw]
      dsimp only
      rw [prevT_app (by omega), effZ, effZ, efRun_app, efFold_none fun a ha => ?_]
      have := h3 a ha
      have := hold _ (List.mem_of_getElem? hw)
      rw [Bool.eq_false_iff]
      intro hh
      have := (hitB_iff.1 hh).2.2.2 rfl
      omega
  refine ⟨answered, ?_⟩
  rcases Nat.lt_trichotomy k ws.length with hk | hk | hk
  · rw [answered hk]
    exact Nat.le_refl _
  · rw [callPts, callPts]
    cases cs[k]? with
    | none => exact Nat.le_refl _
    | some c =>
      dsimp only
      rw [List.getElem?_eq_none (l := ws) (by omega)]
      dsimp only
      rw [if_pos hk, effZ]
      cases hch : chgS (efRun t (prevT ws k) 9223372036854775807 false m.al) with
      | false =>
        rw [pts_no hch]
        exact Nat.zero_le _
      | true =>
        refine Nat.le_trans pts_one ?_
        rw [prevT_app (by omega)]
        cases hv : (ws ++ vs)[k]? with
        | some w =>
          dsimp only
          rw [effZ, efRun_app]
          refine pts_some (chg_fold ?_)
          rw [efRun_same fun a ha => ?_]
          · exact hch
          · rw [List.getElem?_append_right (by omega)] at hv
            have := hnew w (List.mem_of_getElem? hv)
            have := hal a ha
            omega
        | none =>
          dsimp only
          have := List.getElem?_eq_none_iff.1 hv
          rw [List.length_append] at this ⊢
          rw [if_pos (by omega), effZ, efRun_app]
          exact pts_some (chg_fold hch)
  · rw [callPts]
    cases cs[k]? with
    | none => exact Nat.zero_le _
    | some c =>
      dsimp only
      rw [List.getElem?_eq_none (by omega)]
      dsimp only
      rw [if_neg (by omega)]
      exact Nat.zero_le _

theorem all_later (hG : Gr m m') (hal : ∀ a ∈ m.al, a.w ≤ m.k) (hel : ∀ e ∈ m.el, e.w ≤ m.k) : (allPts calls m.al m.el).length ≤ (allPts calls m'.al m'.el).length := by
  rw [allPts, allPts]
  refine flat_le fun t _ => ?_
  rw [thrPts_all, thrPts_all]
  exact flat_le fun k _ => (call_later hG hal hel t _ k).2

theorem pt_later (hG : Gr m m') (hal : ∀ a ∈ m.al, a.w ≤ m.k) (hel : ∀ e ∈ m.el, e.w ≤ m.k) {x : PtZ} (hx : x ∈ allPts calls m.al m.el) {t k : Nat} (ht : x.t = t) (hk : x.k = k) (hl : k < (endT t m.el).length) : x ∈ allPts calls m'.al m'.el := by
  obtain ⟨t', k', cs, c, h1, h2, h3, h4, h5⟩ := allPts_mem hx
  obtain rfl : t = t' := by omega
  obtain rfl : k = k' := by omega
  rw [← (call_later hG hal hel t cs k).1 hl, ← allPts_key m'.al m'.el h3 k] at h5
  exact (List.mem_filter.1 h5).1

end

end Go.Mac
