/- Texts that belong together; the first of them: Threads that ask a phaser: their programs as bodies, and who asks what. -/
import Derived.Test.YtlimhldkkbaohaaDoorQGather
import Derived.Test.YtlimhldkkbaohaaDoorQGuests
import Derived.Test.YtlimhldkkbaohaaDoorQCatRight
import Derived.Test.YtlimhldkkbaohaaDoorGWay
import Derived.Test.YtlimhldkkbaohaaDoorGLinA
import Derived.Test.YtlimhldkkbaohaaDoorGMachN

/- Threads that ask a phaser: their programs as bodies, and who asks what. -/
section
open Go Go.Proofs Go.Mac
set_option maxRecDepth 100000
namespace Go.Mac

def bodyG (c : CallZ) : List InsZ := gathI 0 c
abbrev ownL : List CallZ := [⟨11, 0⟩, ⟨7, 0⟩, ⟨9, 0⟩, ⟨6, 1⟩]

theorem gath_rel (p : Nat) (c : CallZ) : gathI (p : Int) c = (bodyG c).map (relI (p : Int)) := by
  obtain ⟨w, n⟩ := c
  rw [bodyG]
  by_cases h6 : w = 6
  · subst h6
    simp [gathI, registerI, registerT, overI, relI]
  by_cases h10 : w = 10
  · subst h10
    simp [gathI, awaitI, awaitT, overI, relI, Int.add_assoc]
  by_cases h11 : w = 11
  · subst h11
    simp [gathI, closesI, closesT, overI, relI]
  by_cases h9 : w = 9
  · subst h9
    simp [gathI, arriveI, arriveT, awaitI, awaitT, overI, relI, Int.add_assoc]
  by_cases h8 : w = 8
  · subst h8
    simp [gathI, arriveI, arriveT, tellsI, overI, relI]
  · simp [gathI, h6, h10, h11, h9, h8, arriveI, arriveT, tellsI, overI, relI]

theorem gath_fold : ∀ (l : List CallZ) (out : List InsZ), l.foldl (fun out c => out ++ gathI out.length c) out = out ++ catU out.length (l.map bodyG)
  | [], out => by simp [catU]
  | c :: l, out => by
    rw [List.foldl_cons, gath_fold l, gath_rel]
    simp only [List.map_cons, catU, List.length_append, List.length_map, List.append_assoc]

theorem gathP_cat (l : List CallZ) : gathP l = catP (l.map bodyG) := by
  rw [gathP, gathU, gath_fold, catP]
  rfl

def lsC (ll : List (List CallZ)) (t : Nat) : List CallZ := ll.getD t []
theorem lsC_get {ll : List (List CallZ)} {t : Nat} (h : t < ll.length) : ll[t]? = some (lsC ll t) := by
  rw [lsC, List.getD_eq_getElem?_getD, List.getElem?_eq_getElem h]; rfl
theorem lsC_mem {ll : List (List CallZ)} {t : Nat} (h : t < ll.length) : lsC ll t ∈ ll := List.mem_of_getElem? (lsC_get h)

theorem asked_ok : (∀ c ∈ guestT ++ ownL, gFitB c.w c.n = true) ∧ ((guestT ++ ownL).all fun c => decide ((bodyG c).length ≤ 39) && (bodyG c).all fun i => okI 1 (((bodyG c).length : Int) + 1) i) = true := by constructor <;> decide

theorem asked_right {l : List CallZ} (hl : l.length ≤ 6) (hc : ∀ c ∈ l, c ∈ guestT ++ ownL) : rightZ (gathP l) 1 = true := by
  have ha := List.all_eq_true.1 asked_ok.2
  rw [gathP_cat]
  refine catP_right (by decide) (fun b hb => ?_) ?_
  · obtain ⟨c, hc', rfl⟩ := List.mem_map.1 hb
    have := ha c (hc c hc')
    rw [Bool.and_eq_true] at this
    exact List.all_eq_true.1 this.2
  · have := offB_le (n := 39) (l.map bodyG) (fun b hb => by
      obtain ⟨c, hc', rfl⟩ := List.mem_map.1 hb
      have := ha c (hc c hc')
      rw [Bool.and_eq_true] at this
      exact of_decide_eq_true this.1) (l.map bodyG).length
    rw [List.length_map] at this ⊢
    omega

/-- What one needs to ask for such a machine. -/
theorem guests_made (l : List (List Int)) : (guestsZ l ++ [ownL]).length = min l.length 6 + 1 ∧ (∀ x ∈ guestsZ l ++ [ownL], x.length ≤ 6) ∧ (∀ x ∈ guestsZ l ++ [ownL], ∀ c ∈ x, c ∈ guestT ++ ownL) ∧ (guestsZ l ++ [ownL])[min l.length 6]? = some ownL := by
  have hlen : (guestsZ l).length = min l.length 6 := by rw [guestsZ, List.length_map, List.length_take]; omega
  refine ⟨by rw [List.length_append, hlen]; rfl, fun x hx => ?_, fun x hx c hc => ?_, ?_⟩
  · rcases List.mem_append.1 hx with hx | hx
    · obtain ⟨y, _, rfl⟩ := List.mem_map.1 hx
      rw [guestJ_len]; omega
    · rw [List.mem_singleton.1 hx]; decide
  · rcases List.mem_append.1 hx with hx | hx
    · obtain ⟨y, _, rfl⟩ := List.mem_map.1 hx
      obtain ⟨z, _, rfl⟩ := List.mem_map.1 hc
      exact List.mem_append_left _ (List.mem_of_getElem? (guestC_at z))
    · rw [List.mem_singleton.1 hx] at hc
      exact List.mem_append_right _ hc
  · rw [List.getElem?_append_right (by omega), hlen, Nat.sub_self]
    rfl


end Go.Mac
end

/- Machines whose calls each look at the cell: what was told when, and that each call looked between. -/
section
open Go Go.Proofs Go.Mac
set_option maxRecDepth 100000
namespace Go.Mac

/-- Where a body looks first. -/
def loB (B : List InsZ) : Nat :=
  match B[0]? with
  | some i => if i.op = 6 then 0 else 1
  | none => 0

/-- A body that looks first, and says something last. -/
def linB (B : List InsZ) : Bool :=
  sayB B && (B.all fun i => cellK 1 i && decide (i.op ≠ 0) && (decide (i.op ≠ 10) || (decide (0 ≤ i.a) && decide (i.a < B.length))) && (decide (i.op ≠ 11 ∧ i.op ≠ 12 ∧ i.op ≠ 13) || (decide (0 ≤ i.c) && decide (i.c < B.length)))) &&
  match B[0]?, B[loB B]? with
  | some i0, some i => decide (i.op = 6) && decide (i.b = 0) && (decide (i0.op = 1) || decide (i0.op = 6))
  | _, _ => false

theorem linB_say {B : List InsZ} (h : linB B = true) : sayB B = true := by
  rw [linB, Bool.and_eq_true, Bool.and_eq_true] at h
  exact h.1.1

theorem linB_0 {B : List InsZ} (h : linB B = true) : (∃ i, B[loB B]? = some i ∧ i.op = 6 ∧ i.b = 0) ∧ ∀ o i, o < loB B → B[o]? = some i → i.op = 1 := by
  rw [linB, Bool.and_eq_true, Bool.and_eq_true] at h
  have h := h.2
  split at h
  · rename_i i0 i hb hl
    simp only [Bool.and_eq_true, Bool.or_eq_true, decide_eq_true_eq] at h
    refine ⟨⟨i, hl, h.1⟩, fun o j ho hj => ?_⟩
    rw [loB, hb] at ho
    dsimp only at ho
    split at ho
    · omega
    · rename_i h6
      obtain rfl : o = 0 := by omega
      rw [hb] at hj
      obtain rfl := Option.some.inj hj
      rcases h.2 with h | h
      · exact h
      · exact absurd h h6
  · cases h

theorem linB_at {B : List InsZ} (h : linB B = true) {o : Nat} {i : InsZ} (hi : B[o]? = some i) : cellK 1 i = true ∧ i.op ≠ 0 ∧ (i.op = 10 → 0 ≤ i.a ∧ i.a < B.length) ∧ (i.op = 11 ∨ i.op = 12 ∨ i.op = 13 → 0 ≤ i.c ∧ i.c < B.length) := by
  rw [linB, Bool.and_eq_true, Bool.and_eq_true] at h
  have h := List.all_eq_true.1 h.1.2 i (List.mem_of_getElem? hi)
  simp only [Bool.and_eq_true, Bool.or_eq_true, decide_eq_true_eq] at h
  obtain ⟨⟨⟨h1, h2⟩, h3⟩, h4⟩ := h
  refine ⟨h1, h2, fun h10 => ?_, fun h11 => ?_⟩
  · rcases h3 with h3 | h3
    · exact absurd h10 h3
    · exact h3
  · rcases h4 with h4 | h4
    · omega
    · exact h4

theorem nextW_dn {i : InsZ} {x y : ThZ} {ws ws' : List Int} {e : EffW} (h : i.op ≠ 0) (hn : nextW i x ws = (y, ws', e)) : y.dn = x.dn := by
  rw [nextW] at hn
  split at hn
  · rename_i x' hl
    cases hn
    rw [localZ] at hl
    rw [if_neg h] at hl
    repeat' split at hl
    all_goals first
      | (have h9 := Option.some.inj hl; rw [← h9]; first | done | rfl | (split <;> rfl))
      | cases hl
  · repeat' split at hn
    all_goals (cases hn; rfl)

theorem prevT_snoc {ws : List Int} {k : Nat} (h : k ≤ ws.length) (w : Int) : prevT (ws ++ [w]) k = prevT ws k := by
  rw [prevT, prevT]
  split
  · rfl
  · rw [List.getD_eq_getElem?_getD, List.getD_eq_getElem?_getD, List.getElem?_append_left (by omega)]

theorem endsOk_snoc (calls : List (List CallZ)) (e : EvZ) : ∀ (l pre : List EvZ), endsOk calls pre (l ++ [e]) = (endsOk calls pre l && decide (e.a = 3 ∧ 0 ≤ e.t ∧ e.t < calls.length ∧ (endT e.t.toNat (pre ++ l)).length ≠ ((calls.getD e.t.toNat []).length)))
  | [], pre => by simp [endsOk]
  | x :: l, pre => by
    rw [List.cons_append, endsOk, endsOk, endsOk_snoc calls e l, Bool.and_assoc]
    simp

/-- Where a thread is. -/
def PlG (bl : List (List InsZ)) (g : GZ) : Prop := g.j ≤ bl.length ∧ (∀ b, bl[g.j]? = some b → g.y.pc < b.length) ∧ (g.j = bl.length → g.y.dn = false → g.y.pc = 0) ∧ (g.j < bl.length → g.y.dn = false)

/-- A thread looked at the cell between two steps. -/
def sawW (al : List ActZ) (s : Nat) (frm to : Int) : Prop := ∃ a ∈ al, a.t = s ∧ a.c = 0 ∧ frm < a.w ∧ a.w < to

structure LinJ (n : Nat) (bs : Nat → List (List InsZ)) (calls : List (List CallZ)) (gs : Nat → GZ) (m : MZ) : Prop where
  sys : ∃ ws, SysW n 1 bs gs ws m
  pl : ∀ s, s < n → PlG (bs s) (gs s)
  told : ∀ s, s < n → (endT s m.el).length = (gs s).j
  ok : endsOk calls [] m.el = true
  inc : Inc m.al
  al : ∀ a ∈ m.al, a.w ≤ m.k
  el : ∀ e ∈ m.el, e.w ≤ m.k
  num : m.el.length ≤ m.k
  numA : m.al.length ≤ m.k
  lim : m.k ≤ 20000
  win : ∀ s, s < n → ∀ k w, (endT s m.el)[k]? = some w → sawW m.al s (prevT (endT s m.el) k) w
  now : ∀ s, s < n → ∀ b, (bs s)[(gs s).j]? = some b → loB b < (gs s).y.pc → sawW m.al s (prevT (endT s m.el) (endT s m.el).length) (m.k + 1)

def LinI (n : Nat) (bs : Nat → List (List InsZ)) (calls : List (List CallZ)) (m : MZ) : Prop := ∃ gs, LinJ n bs calls gs m

theorem sawW.mono {al al' : List ActZ} {s : Nat} {frm to to' : Int} (h : sawW al s frm to) (hs : ∀ a ∈ al, a ∈ al') (ht : to ≤ to') : sawW al' s frm to' := by
  obtain ⟨a, h1, h2, h3, h4, h5⟩ := h
  exact ⟨a, hs a h1, h2, h3, h4, by omega⟩

theorem prevT_le {ws : List Int} {b : Int} (hb : 0 ≤ b) (h : ∀ w ∈ ws, w ≤ b) (k : Nat) : prevT ws k ≤ b := by
  rw [prevT]
  split
  · exact hb
  · rw [List.getD_eq_getElem?_getD]
    cases hk : ws[k - 1]? with
    | none => exact hb
    | some w => exact h w (List.mem_of_getElem? hk)

theorem endT_mem {t : Nat} {el : List EvZ} {w : Int} (h : w ∈ endT t el) : ∃ e ∈ el, e.w = w := by
  rw [endT] at h
  obtain ⟨e, he, rfl⟩ := List.mem_map.1 h
  exact ⟨e, (List.mem_filter.1 he).1, rfl⟩

section
variable {n : Nat} {bs : Nat → List (List InsZ)} {calls : List (List CallZ)} {m : MZ}

/-- One step of a thread, whatever it does. -/
theorem LinJ.step {gs : Nat → GZ} (h : LinJ n bs calls gs m) (hB : ∀ s, s < n → ∀ b ∈ bs s, linB b = true) (hn : calls.length = n) (hcl : ∀ s, s < n → (calls.getD s []).length = (bs s).length) {t : Nat} (hc : canZ m t = true) (hk : m.k < 20000) : LinI n bs calls (stepZ m t).2 := by
  obtain ⟨ws, hS⟩ := h.sys
  obtain ⟨ht, hd, _⟩ := hS.can hc
  obtain ⟨p1, p2, p3, p4⟩ := h.pl t ht
  have hlast : prevT (endT t m.el) (endT t m.el).length ≤ m.k := prevT_le (by omega) (fun w hw => by obtain ⟨e, he, rfl⟩ := endT_mem hw; exact h.el e he) _
  have hlim := h.lim
  rcases Nat.lt_or_ge (gs t).j (bs t).length with hj | hj
  · -- in a body
    obtain ⟨b, hb⟩ : ∃ b, (bs t)[(gs t).j]? = some b := ⟨_, List.getElem?_eq_getElem hj⟩
    have hpb := p2 b hb
    obtain ⟨i, hi⟩ : ∃ i, b[(gs t).y.pc]? = some i := ⟨_, List.getElem?_eq_getElem hpb⟩
    have hLb := hB t ht b (List.mem_of_getElem? hb)
    obtain ⟨q1, q2, q3, q4⟩ := linB_at hLb hi
    have hig : insG (bs t) (gs t) = some i := by
      rw [insG, hb]
      exact hi
    obtain ⟨y', ws', e, hnx⟩ : ∃ y' ws' e, nextW i (gs t).y ws = (y', ws', e) := ⟨_, _, _, rfl⟩
    have ho : cellsC 1 (gs t).y i := cellK_ok q1
    obtain ⟨hS', hss, hal, hel, hk'⟩ := hS.go hc hk hig ho hnx
    have hdn := (nextW_dn q2 hnx).trans hd
    -- what it does to the acts
    have halm : ∀ a ∈ m.al, a ∈ (stepZ m t).2.al := fun a ha => by
      rw [hal]
      cases e <;> first | exact ha | exact List.mem_append_left _ ha
    have hal2 : (stepZ m t).2.al = m.al ∨ ∃ a, (stepZ m t).2.al = m.al ++ [a] ∧ a.w = ((m.k + 1 : Nat) : Int) ∧ a.t = (t : Int) := by
      rw [hal]
      cases e with
      | act o c x y => exact .inr ⟨_, rfl, rfl, rfl⟩
      | _ => exact .inl rfl
    have hinc : Inc (stepZ m t).2.al := by
      rcases hal2 with h2 | ⟨a, h2, h3, _⟩
      · rw [h2]; exact h.inc
      · rw [h2]
        refine List.pairwise_append.2 ⟨h.inc, List.pairwise_singleton .., fun x hx y hy => ?_⟩
        simp only [List.mem_singleton] at hy
        subst hy
        have := h.al x hx
        omega
    have halk : ∀ a ∈ (stepZ m t).2.al, a.w ≤ (stepZ m t).2.k := fun a ha => by
      rw [hk']
      rcases hal2 with h2 | ⟨a', h2, h3, _⟩
      · rw [h2] at ha
        have := h.al a ha
        omega
      · rw [h2] at ha
        rcases List.mem_append.1 ha with ha | ha
        · have := h.al a ha
          omega
        · simp only [List.mem_singleton] at ha
          subst ha
          omega
    have hnumA : (stepZ m t).2.al.length ≤ (stepZ m t).2.k := by
      have := h.numA
      rw [hk']
      rcases hal2 with h2 | ⟨a', h2, _⟩
      · rw [h2]; omega
      · rw [h2, List.length_append]
        simp only [List.length_singleton]
        omega
    by_cases h16 : i.op = 16
    · -- it says something, at the end
      obtain ⟨ha3, hpe⟩ := (sayB_at (linB_say hLb) hi).1 h16
      rw [nextW_16 h16] at hnx
      cases hnx
      have hel : (stepZ m t).2.el = m.el ++ [⟨((m.k + 1 : Nat) : Int), i.a, (t : Int), IntKind.i64.wrap (rgZ (gs t).y.rg i.b)⟩] := hel
      have hal : (stepZ m t).2.al = m.al := hal
      have hng : normG (bs t) ⟨(gs t).j, ⟨(gs t).y.pc + 1, (gs t).y.rg, (gs t).y.dn⟩⟩ = ⟨(gs t).j + 1, ⟨0, (gs t).y.rg, (gs t).y.dn⟩⟩ := by
        rw [normG, hb]
        dsimp only
        rw [if_pos hpe]
      rw [hng] at hS'
      have hends : ∀ s, endT s (stepZ m t).2.el = if s = t then endT s m.el ++ [((m.k + 1 : Nat) : Int)] else endT s m.el := fun s => by
        rw [hel, endT_snoc]
        by_cases hst : s = t
        · subst hst
          rw [if_pos rfl, if_pos rfl]
        · rw [if_neg hst, if_neg fun e => hst (by dsimp only at e; omega)]
      refine ⟨_, ⟨⟨_, hS'⟩, fun s hs => ?_, fun s hs => ?_, ?_, hinc, halk, fun e he => ?_, ?_, hnumA, by rw [hk']; omega, fun s hs k w hw => ?_, fun s hs b' hjs hps => ?_⟩⟩
      · by_cases hst : s = t
        · subst hst
          rw [updG_same]
          refine ⟨hj, fun b' hb' => ?_, fun _ _ => rfl, fun _ => hd⟩
          obtain ⟨⟨i0, hi0, _⟩, _⟩ := linB_0 (hB s hs b' (List.mem_of_getElem? hb'))
          have := (List.getElem?_eq_some_iff.1 hi0).1
          show 0 < b'.length
          omega
        · rw [updG_ne _ _ hst]
          exact h.pl s hs
      · rw [hends]
        by_cases hst : s = t
        · subst hst
          rw [if_pos rfl, updG_same, List.length_append, h.told s hs]
          rfl
        · rw [if_neg hst, updG_ne _ _ hst]
          exact h.told s hs
      · rw [hel, endsOk_snoc, h.ok, List.nil_append, Bool.true_and]
        refine decide_eq_true ⟨ha3, by dsimp only; omega, by dsimp only; omega, ?_⟩
        rw [Int.toNat_natCast, h.told t ht, hcl t ht]
        omega
      · rw [hk']
        rw [hel] at he
        rcases List.mem_append.1 he with he | he
        · have := h.el e he
          omega
        · simp only [List.mem_singleton] at he
          subst he
          exact Int.le_refl _
      · rw [hk', hel, List.length_append]
        have := h.num
        simp only [List.length_singleton]
        omega
      · rw [hends] at hw ⊢
        rw [hal]
        by_cases hst : s = t
        · subst hst
          rw [if_pos rfl] at hw ⊢
          rcases Nat.lt_or_ge k (endT s m.el).length with hkl | hkl
          · rw [List.getElem?_append_left hkl] at hw
            rw [prevT_snoc (by omega)]
            exact h.win s hs k w hw
          · have hkeq : k = (endT s m.el).length := by
              have := (List.getElem?_eq_some_iff.1 hw).1
              rw [List.length_append] at this
              simp only [List.length_singleton] at this
              omega
            subst hkeq
            rw [List.getElem?_append_right (Nat.le_refl _), Nat.sub_self] at hw
            have hw : ((m.k + 1 : Nat) : Int) = w := Option.some.inj hw
            subst hw
            rw [prevT_snoc (Nat.le_refl _)]
            refine h.now s hs b hb (Nat.lt_of_not_le fun hle => ?_)
            obtain ⟨⟨i0, hi0, h6, _⟩, h1⟩ := linB_0 hLb
            rcases Nat.lt_or_eq_of_le hle with hlt | he
            · have := h1 _ _ hlt hi
              omega
            · rw [he, hi0] at hi
              obtain rfl := Option.some.inj hi
              omega
        · rw [if_neg hst] at hw ⊢
          exact h.win s hs k w hw
      · by_cases hst : s = t
        · subst hst
          rw [updG_same] at hps
          exact absurd hps (Nat.not_lt_zero _)
        · rw [updG_ne _ _ hst] at hjs hps
          rw [hends, if_neg hst, hk', hal]
          exact (h.now s hs b' hjs hps).mono (fun _ ha => ha) (by omega)
    · -- it goes on
      obtain ⟨hne, hpc⟩ := nextW_not h16 hnx
      obtain ⟨s1, s2, s3⟩ := (sayB_at (linB_say hLb) hi).2 h16
      have hel : (stepZ m t).2.el = m.el := by
        rw [hel]
        cases e with
        | say a v => exact absurd rfl (hne a v)
        | _ => rfl
      have hpos : y'.pc < b.length := by
        rcases hpc with hpc | ⟨h10, hpc⟩ | ⟨h11, hpc⟩
        · omega
        · have := q3 h10
          omega
        · have := q4 h11
          omega
      have hng : normG (bs t) ⟨(gs t).j, y'⟩ = ⟨(gs t).j, y'⟩ := by
        rw [normG, hb]
        dsimp only
        rw [if_neg (by omega)]
      rw [hng] at hS'
      refine ⟨_, ⟨⟨_, hS'⟩, fun s hs => ?_, fun s hs => ?_, by rw [hel]; exact h.ok, hinc, halk, fun e he => ?_, by rw [hel, hk']; have := h.num; omega, hnumA, by rw [hk']; omega, fun s hs k w hw => ?_, fun s hs b' hjs hps => ?_⟩⟩
      · by_cases hst : s = t
        · subst hst
          rw [updG_same]
          refine ⟨p1, fun b' hb' => ?_, fun he => ?_, fun _ => hdn⟩
          · have hb' : (bs s)[(gs s).j]? = some b' := hb'
            rw [hb] at hb'
            obtain rfl := Option.some.inj hb'
            exact hpos
          · have he : (gs s).j = (bs s).length := he
            omega
        · rw [updG_ne _ _ hst]
          exact h.pl s hs
      · rw [hel]
        by_cases hst : s = t
        · subst hst
          rw [updG_same]
          exact h.told s hs
        · rw [updG_ne _ _ hst]
          exact h.told s hs
      · rw [hel] at he
        have := h.el e he
        omega
      · rw [hel] at hw ⊢
        exact (h.win s hs k w hw).mono halm (Int.le_refl _)
      · rw [hel, hk']
        by_cases hst : s = t
        · subst hst
          rw [updG_same] at hjs hps
          have hjs : (bs s)[(gs s).j]? = some b' := hjs
          rw [hb] at hjs
          obtain rfl := Option.some.inj hjs
          have hps : loB b < y'.pc := hps
          obtain ⟨⟨i0, hi0, h6, hb0⟩, h1⟩ := linB_0 hLb
          rcases Nat.lt_trichotomy (gs s).y.pc (loB b) with hlt | he | hgt
          · exfalso
            have := h1 _ _ hlt hi
            rcases hpc with hpc | ⟨h10, _⟩ | ⟨h11, _⟩ <;> omega
          · rw [he, hi0] at hi
            obtain rfl := Option.some.inj hi
            have he6 : ∃ x, e = .act 6 0 x x := by
              obtain ⟨op, a, b2, c, d⟩ := i0
              dsimp only at h6 hb0
              subst h6 hb0
              exact ⟨_, (Prod.mk.inj (Prod.mk.inj hnx).2).2.symm⟩
            obtain ⟨x, rfl⟩ := he6
            refine ⟨⟨((m.k + 1 : Nat) : Int), (s : Int), 6, ((0 : Nat) : Int), x, x⟩, ?_, rfl, rfl, ?_, ?_⟩
            · rw [hal]
              exact List.mem_append_right _ (by simp)
            · show _ < ((m.k + 1 : Nat) : Int)
              omega
            · show ((m.k + 1 : Nat) : Int) < _
              omega
          · exact (h.now s hs b hb hgt).mono halm (by omega)
        · rw [updG_ne _ _ hst] at hjs hps
          exact (h.now s hs b' hjs hps).mono halm (by omega)
  · -- it is at its end
    have hje : (gs t).j = (bs t).length := by omega
    have hpc0 := p3 hje hd
    have hnone : (bs t)[(gs t).j]? = none := List.getElem?_eq_none (by omega)
    have hig : insG (bs t) (gs t) = some ⟨0, 0, 0, 0, 0⟩ := by
      rw [insG, hnone]
      exact if_pos ⟨hje, hpc0⟩
    obtain ⟨hS', hss, hal, hel, hk'⟩ := hS.go hc hk hig (.inl rfl) (y' := ⟨(gs t).y.pc + 1, (gs t).y.rg, true⟩) (ws' := ws) (e := .no) rfl
    have hal : (stepZ m t).2.al = m.al := hal
    have hel : (stepZ m t).2.el = m.el := hel
    have hng : normG (bs t) ⟨(gs t).j, ⟨(gs t).y.pc + 1, (gs t).y.rg, true⟩⟩ = ⟨(gs t).j, ⟨(gs t).y.pc + 1, (gs t).y.rg, true⟩⟩ := by
      rw [normG, hnone]
    rw [hng] at hS'
    refine ⟨_, ⟨⟨_, hS'⟩, fun s hs => ?_, fun s hs => ?_, by rw [hel]; exact h.ok, by rw [hal]; exact h.inc, fun a ha => ?_, fun e he => ?_, by rw [hel, hk']; have := h.num; omega, by rw [hal, hk']; have := h.numA; omega, by rw [hk']; omega, fun s hs k w hw => ?_, fun s hs b' hjs hps => ?_⟩⟩
    · by_cases hst : s = t
      · subst hst
        rw [updG_same]
        refine ⟨p1, fun b' hb' => ?_, fun _ hdn => (by cases hdn), fun hlt => ?_⟩
        · have hb' : (bs s)[(gs s).j]? = some b' := hb'
          rw [hnone] at hb'
          cases hb'
        · have hlt : (gs s).j < (bs s).length := hlt
          omega
      · rw [updG_ne _ _ hst]
        exact h.pl s hs
    · rw [hel]
      by_cases hst : s = t
      · subst hst
        rw [updG_same]
        exact h.told s hs
      · rw [updG_ne _ _ hst]
        exact h.told s hs
    · rw [hal] at ha
      have := h.al a ha
      omega
    · rw [hel] at he
      have := h.el e he
      omega
    · rw [hel] at hw ⊢
      rw [hal]
      exact h.win s hs k w hw
    · rw [hel, hal, hk']
      by_cases hst : s = t
      · subst hst
        rw [updG_same] at hjs
        have hjs : (bs s)[(gs s).j]? = some b' := hjs
        rw [hnone] at hjs
        cases hjs
      · rw [updG_ne _ _ hst] at hjs hps
        exact (h.now s hs b' hjs hps).mono (fun _ ha => ha) (by omega)

theorem LinI.step (h : LinI n bs calls m) (hB : ∀ s, s < n → ∀ b ∈ bs s, linB b = true) (hn : calls.length = n) (hcl : ∀ s, s < n → (calls.getD s []).length = (bs s).length) (t : Int) : LinI n bs calls (stepZ m t).2 := by
  obtain ⟨gs, h⟩ := h
  obtain ⟨ws, hS⟩ := h.sys
  rcases step_or hS.wf t with e | ⟨s, rfl, hc, hk⟩
  · rw [e]; exact ⟨gs, h⟩
  · exact h.step hB hn hcl hc hk

theorem LinI.poke (h : LinI n bs calls m) (t : Int) : LinI n bs calls (pokeZ m t) := by
  obtain ⟨gs, h⟩ := h
  obtain ⟨ws, hS⟩ := h.sys
  exact ⟨gs, ⟨⟨ws, hS.poke t⟩, h.pl, h.told, h.ok, h.inc, h.al, h.el, h.num, h.numA, h.lim, h.win, h.now⟩⟩

theorem LinI.moves (h : LinI n bs calls m) (hB : ∀ s, s < n → ∀ b ∈ bs s, linB b = true) (hn : calls.length = n) (hcl : ∀ s, s < n → (calls.getD s []).length = (bs s).length) (ms : List MoveZ) : LinI n bs calls (movesZ m ms) :=
  moves_inv (P := fun _ m => LinI n bs calls m) (fun _ _ t h => h.step hB hn hcl t) (fun _ _ t h => h.poke t) ms 0 _ h

theorem LinI.fin (h : LinI n bs calls m) (hB : ∀ s, s < n → ∀ b ∈ bs s, linB b = true) (hn : calls.length = n) (hcl : ∀ s, s < n → (calls.getD s []).length = (bs s).length) : LinI n bs calls (finish m) := by
  have hw : WF m := by
    obtain ⟨gs, h⟩ := h
    obtain ⟨ws, hS⟩ := h.sys
    exact hS.wf
  exact (finish_inv (P := fun m => LinI n bs calls m) (fun m t h _ _ => h.step hB hn hcl t) h hw).1

end

end Go.Mac
end

/- Threads that ask a phaser: each call looks between; what that says of the points. -/
section
open Go Go.Proofs Go.Mac
set_option maxRecDepth 100000
namespace Go.Mac

theorem body_lin : ∀ c ∈ guestT ++ ownL, linB (bodyG c) = true := by decide +kernel

def bsC (ll : List (List CallZ)) (t : Nat) : List (List InsZ) := (lsC ll t).map bodyG

theorem lin_bodies {ll : List (List CallZ)} (hc : ∀ l ∈ ll, ∀ c ∈ l, c ∈ guestT ++ ownL) : ∀ s, s < ll.length → ∀ b ∈ bsC ll s, linB b = true := fun s hs b hb => by
  obtain ⟨c, hc', rfl⟩ := List.mem_map.1 hb
  exact body_lin c (hc _ (lsC_mem hs) c hc')

theorem lin_len (ll : List (List CallZ)) : ∀ s, s < ll.length → (ll.getD s []).length = (bsC ll s).length := fun s _ => by rw [bsC, List.length_map, lsC]

theorem lin_init {ll : List (List CallZ)} (hn : ll.length ≤ 7) (hl : ∀ l ∈ ll, l.length ≤ 6) (hc : ∀ l ∈ ll, ∀ c ∈ l, c ∈ guestT ++ ownL) {w : Int} (hw : 0 ≤ w ∧ w < 18446744073709551616) : LinI ll.length (bsC ll) ll (mz0 (ll.map gathP) [w]) := by
  have hts : ∀ t, t < ll.length → (mz0 (ll.map gathP) [w]).ts[t]? = some th0 := fun t ht => by
    show (List.replicate (ll.map _).length th0)[t]? = _
    rw [List.length_map, List.getElem?_replicate, if_pos ht]
  refine ⟨fun _ => ⟨0, th0⟩, ⟨⟨[w], ⟨mz0_wf (by simp; omega) (by simp) (fun p hp => ?_) (fun x hx => ?_), by simp [mz0], rfl, fun t ht => ?_, rfl, fun t ht => ?_⟩⟩, fun s hs => ⟨Nat.zero_le _, fun b hb => ?_, fun _ _ => rfl, fun _ => rfl⟩, fun s _ => rfl, rfl, List.Pairwise.nil, (fun a ha => by cases ha), (fun a ha => by cases ha), Nat.le_refl _, Nat.le_refl _, Nat.zero_le _, (fun s _ k w h => by cases h), fun s _ b _ h => absurd h (Nat.not_lt_zero _)⟩⟩
  · obtain ⟨l, hl', rfl⟩ := List.mem_map.1 hp
    exact asked_right (hl l hl') (hc l hl')
  · obtain rfl := List.mem_singleton.1 hx
    exact hw
  · show (ll.map gathP)[t]? = _
    rw [List.getElem?_map, lsC_get ht, Option.map_some, gathP_cat]; rfl
  · rw [hts t ht]; rfl
  · obtain ⟨⟨i, hi, _⟩, _⟩ := linB_0 (lin_bodies hc s hs b (List.mem_of_getElem? hb))
    have := (List.getElem?_eq_some_iff.1 hi).1
    show 0 < b.length
    omega

theorem lin_moves {ll : List (List CallZ)} (hn : ll.length ≤ 7) (hl : ∀ l ∈ ll, l.length ≤ 6) (hc : ∀ l ∈ ll, ∀ c ∈ l, c ∈ guestT ++ ownL) {w : Int} (hw : 0 ≤ w ∧ w < 18446744073709551616) (ms : List MoveZ) : LinI ll.length (bsC ll) ll (movesZ (mz0 (ll.map gathP) [w]) ms) :=
  (lin_init hn hl hc hw).moves (lin_bodies hc) rfl (lin_len ll) ms

/-! ### The points -/

theorem effZ_mem {t k w frm to : Int} {acts : List ActZ} {done : Bool} (hI : Inc acts) {x : PtZ} (h : x ∈ effZ t k w acts frm to done) : ∃ a ∈ acts, hitB t frm to done a = true ∧ a.w = x.w := by
  have ho := EfOk.run t frm to done _ acts rfl hI
  rw [effZ] at h
  cases hs : efRun t frm to done acts with
  | s0 => rw [hs] at h; simp [efPts] at h
  | s1 v =>
    rw [hs] at h ho
    simp only [efPts] at h
    obtain ⟨a, h1, h2, h3⟩ := ho
    split at h <;> simp only [List.mem_singleton, List.not_mem_nil] at h
    subst h
    exact ⟨a, h1, h2, h3⟩
  | s2 v =>
    rw [hs] at h ho
    simp only [efPts] at h
    obtain ⟨a, h1, h2, h3, _⟩ := ho
    split at h <;> simp only [List.mem_cons, List.not_mem_nil, or_false] at h
    · rcases h with rfl | rfl
      · exact ⟨a, h1, h2, h3⟩
      · exact ⟨a, h1, h2, h3⟩
    · subst h
      exact ⟨a, h1, h2, h3⟩
  | s3 c v =>
    rw [hs] at h ho
    simp only [efPts] at h
    obtain ⟨⟨a, h1, h2, h3, _⟩, ⟨b, g1, g2, g3⟩, _⟩ := ho
    split at h <;> simp only [List.mem_cons, List.not_mem_nil, or_false] at h
    · rcases h with rfl | rfl
      · exact ⟨a, h1, h2, h3⟩
      · exact ⟨b, g1, g2, g3⟩
    · subst h
      exact ⟨a, h1, h2, h3⟩

theorem hitB_iff {t frm to : Int} {done : Bool} {a : ActZ} : hitB t frm to done a = true ↔ a.t = t ∧ a.c = 0 ∧ frm < a.w ∧ (done = true → a.w < to) := by
  rw [hitB]
  cases done
  · simp
  · simp

theorem callPts_mem {t : Nat} {acts : List ActZ} {cs : List CallZ} {ws : List Int} {k : Nat} (hI : Inc acts) {x : PtZ} (h : x ∈ callPts t acts cs ws k) : k ≤ ws.length ∧ prevT ws k < x.w ∧ ∀ w, ws[k]? = some w → x.w < w := by
  rw [callPts] at h
  cases hc : cs[k]? with
  | none => rw [hc] at h; simp at h
  | some c =>
    rw [hc] at h
    dsimp only at h
    cases hw : ws[k]? with
    | none =>
      rw [hw] at h
      dsimp only at h
      split at h
      · rename_i hk
        obtain ⟨a, _, h2, h3⟩ := effZ_mem hI h
        have := hitB_iff.1 h2
        exact ⟨by omega, by omega, fun w hw => by cases hw⟩
      · simp at h
    | some w =>
      rw [hw] at h
      dsimp only at h
      obtain ⟨a, _, h2, h3⟩ := effZ_mem hI h
      have := hitB_iff.1 h2
      have hl := (List.getElem?_eq_some_iff.1 hw).1
      refine ⟨by omega, by omega, fun w' hw' => ?_⟩
      obtain rfl := Option.some.inj hw'
      have := this.2.2.2 rfl
      omega

theorem callPts_some {t : Nat} {acts : List ActZ} {cs : List CallZ} {ws : List Int} {k : Nat} (hI : Inc acts) (hk : k < cs.length) {w : Int} (hw : ws[k]? = some w) (hs : sawW acts t (prevT ws k) w) : ∃ x, x ∈ callPts t acts cs ws k := by
  rw [callPts, List.getElem?_eq_getElem hk, hw]
  dsimp only
  have ho := EfOk.run t (prevT ws k) w true _ acts rfl hI
  obtain ⟨a, h1, h2, h3, h4, h5⟩ := hs
  rw [effZ]
  cases hr : efRun t (prevT ws k) w true acts with
  | s0 =>
    rw [hr] at ho
    have := ho a h1
    rw [hitB_iff.2 ⟨h2, h3, h4, fun _ => h5⟩] at this
    cases this
  | s1 v => exact ⟨⟨v, t, k, false⟩, by simp [efPts]⟩
  | s2 v =>
    simp only [efPts]
    split
    · exact ⟨_, List.mem_cons_self ..⟩
    · exact ⟨_, List.mem_cons_self ..⟩
  | s3 c v =>
    simp only [efPts]
    split
    · exact ⟨_, List.mem_cons_self ..⟩
    · exact ⟨_, List.mem_cons_self ..⟩

/-- What one point says. -/
theorem pt_within {calls : List (List CallZ)} {acts : List ActZ} {el : List EvZ} {pts : List PtZ} (hS : St (allPts calls acts el) pts) (hI : Inc acts) {x : PtZ} (hx : x ∈ pts) :
    ∃ t k : Nat, x.t = t ∧ x.k = k ∧ t < calls.length ∧ k ≤ (endT t el).length ∧ prevT (endT t el) k < x.w ∧ ∀ w, (endT t el)[k]? = some w → x.w < w := by
  obtain ⟨t, k, cs, c, h1, h2, h3, h4, h5⟩ := allPts_mem (hS.2.mem.1 hx)
  obtain ⟨g1, g2, g3⟩ := callPts_mem hI h5
  exact ⟨t, k, h1, h2, (List.getElem?_eq_some_iff.1 h3).1, g1, g2, g3⟩

/-- Each call that is answered has a point. -/
theorem pt_some {calls : List (List CallZ)} {acts : List ActZ} {el : List EvZ} {pts : List PtZ} (hS : St (allPts calls acts el) pts) (hI : Inc acts) {t k : Nat} (ht : t < calls.length) (hl : (endT t el).length ≤ (calls.getD t []).length) {w : Int} (hw : (endT t el)[k]? = some w) (hs : sawW acts t (prevT (endT t el) k) w) :
    ∃ x ∈ pts, x.t = t ∧ x.k = k := by
  have hcs : calls[t]? = some (calls.getD t []) := by rw [List.getD_eq_getElem?_getD, List.getElem?_eq_getElem ht]; rfl
  obtain ⟨x, hx⟩ := callPts_some (cs := calls.getD t []) hI (by have := (List.getElem?_eq_some_iff.1 hw).1; omega) hw hs
  obtain ⟨h1, h2⟩ := callPts_key hx
  refine ⟨x, hS.2.mem.2 ?_, h1, h2⟩
  have := allPts_key acts el hcs k
  rw [← this] at hx
  exact (List.mem_filter.1 hx).1

end Go.Mac
end
