/- Threads that look, or change: each step keeps what holds; and in the end. -/
import Derived.Test.YtlimhldkkbaohaaDoorQRwZ
open Go Go.Proofs Go.Mac
set_option maxRecDepth 100000
namespace Go.Mac

/-- Who looks, and who owns, by what was done. -/
def rwF : Option (List Int × Int) → ActZ → Option (List Int × Int)
  | none, _ => none
  | some (L, w), a =>
    if a.o = 9 ∧ a.x ≠ a.y ∧ a.y = 4294967296 then (if 0 ≤ w ∨ L ≠ [] then none else some (L, a.t))
    else if a.o = 9 ∧ a.x ≠ a.y then (if 0 ≤ w ∨ a.t ∈ L ∨ a.y ≠ a.x + 1 ∨ a.x < 0 ∨ 8 < a.x then none else some (L ++ [a.t], w))
    else if a.o = 8 then (if a.t ∈ L then some (L.erase a.t, w) else none)
    else if a.o = 7 then (if w = a.t then some (L, -1) else none)
    else some (L, w)

def rwFold (al : List ActZ) : Option (List Int × Int) := al.foldl rwF (some ([], -1))

theorem rwFold_snoc (al : List ActZ) (a : ActZ) : rwFold (al ++ [a]) = rwF (rwFold al) a := by rw [rwFold, List.foldl_append]; rfl

/-- What was done tells who looks, and who owns. -/
structure RwFo (n : Nat) (lk ow : Nat → Nat) (al : List ActZ) (L : List Int) (w : Int) : Prop where
  fold : rwFold al = some (L, w)
  nd : L.Nodup
  mem : ∀ x, x ∈ L ↔ ∃ t : Nat, t < n ∧ x = t ∧ lk t = 1
  len : L.length = rsum n lk
  own : w = -1 ∧ rsum n ow = 0 ∨ ∃ t : Nat, t < n ∧ w = t ∧ ow t = 1 ∧ rsum n ow = 1

structure RwJ (B n : Nat) (ls : Nat → List Bool) (gs : Nat → GZ) (v : Int) (m : MZ) : Prop where
  sys : SysW n 1 (fun t => (ls t).map rwB) gs [v] m
  hn : n ≤ 8
  th : ∀ t, t < n → RwG (ls t) (gs t)
  ex : v = rsum n (fun t => rlk (ls t) (gs t)) + 4294967296 * rsum n (fun t => row (ls t) (gs t)) ∧ (rsum n (fun t => row (ls t) (gs t)) = 0 ∨ rsum n (fun t => row (ls t) (gs t)) = 1 ∧ rsum n (fun t => rlk (ls t) (gs t)) = 0)
  sl : ∀ s ∈ m.ss, s.c = 0 ∧ (((ls s.t.toNat)[(gs s.t.toNat).j]? = some false ∧ (gs s.t.toNat).y.pc = 8 ∨ (ls s.t.toNat)[(gs s.t.toNat).j]? = some true ∧ (gs s.t.toNat).y.pc = 3) ∧ (gs s.t.toNat).y.dn = false)
  jn : m.ss ≠ [] → ∃ t, t < n ∧ 1 ≤ rlk (ls t) (gs t) + row (ls t) (gs t) + rwk (ls t) (gs t)
  fo : ∃ L w, RwFo n (fun t => rlk (ls t) (gs t)) (fun t => row (ls t) (gs t)) m.al L w
  pot : m.k + (rsum n (fun t => rlp v (ls t) (gs t)) + 6 * (n - m.ss.length)) ≤ B

theorem rlk_le (l : List Bool) (g : GZ) : rlk l g ≤ 1 := by
  unfold rlk rlkN
  split
  · split <;> omega
  · omega

theorem row_le (l : List Bool) (g : GZ) : row l g ≤ 1 := by
  unfold row rowN
  split
  · split <;> omega
  · omega

theorem rsum_pos {n : Nat} {g : Nat → Nat} (h : 1 ≤ rsum n g) : ∃ t, t < n ∧ 1 ≤ g t := Classical.byContradiction fun hno => by
  have := rsum_zero (n := n) (g := g) fun s hs => by
    have : ¬ 1 ≤ g s := fun h => hno ⟨s, hs, h⟩
    omega
  omega

theorem rsum_pair {n t s : Nat} {g : Nat → Nat} (ht : t < n) (hs : s < n) (hne : s ≠ t) : g t + g s ≤ rsum n g := by
  have h1 := rsum_upd (n := n) (t := t) (g := fun u => if u = s then g s else 0) (h := fun u => if u = t then 0 else g u) ht fun u _ hu => by
    rw [if_neg hu]
    split
    · rename_i h; rw [h]; exact Nat.le_refl _
    · exact Nat.zero_le _
  have h2 := rsum_one (n := n) (t := s) (g := fun u => if u = s then g s else 0) hs
  have h3 := rsum_upd (n := n) (t := t) (g := fun u => if u = t then 0 else g u) (h := g) ht fun u _ hu => by rw [if_neg hu]; exact Nat.le_refl _
  simp only [if_true] at h1 h2 h3
  have h4 : (if t = s then g s else 0) = 0 := if_neg fun e => hne e.symm
  rw [h4] at h1
  omega

theorem RwJ.val {B n : Nat} {ls : Nat → List Bool} {gs : Nat → GZ} {v : Int} {m : MZ} (h : RwJ B n ls gs v m) : rwV v := by
  have h1 := rsum_const n 1 (fun t => rlk (ls t) (gs t)) fun s _ => rlk_le _ _
  have := h.hn
  obtain ⟨e1, e2⟩ := h.ex
  unfold rwV
  omega

section
variable {B n : Nat} {ls : Nat → List Bool} {gs : Nat → GZ} {v : Int} {m : MZ}

theorem rw_upd (h : RwJ B n ls gs v m) {t : Nat} (hc : canZ m t = true) (hk : m.k < 20000) {g g' : GZ} (hgt : gs t = g) {v' : Int} {e : EffW} (hl : LS 1 ((ls t).map rwB) g [v] g' [v'] e) (hT : RwG (ls t) g') {d : Nat} (hd : v' = v ∧ d = 0 ∨ d = 6)
    (hex : v' = rsum n (fun s => rlk (ls s) (updG gs t g' s)) + 4294967296 * rsum n (fun s => row (ls s) (updG gs t g' s)) ∧ (rsum n (fun s => row (ls s) (updG gs t g' s)) = 0 ∨ rsum n (fun s => row (ls s) (updG gs t g' s)) = 1 ∧ rsum n (fun s => rlk (ls s) (updG gs t g' s)) = 0))
    (hsl : ∀ s ∈ effWS t m.ss e, s ∈ m.ss ∨ s = ⟨t, 0⟩ ∧ ((ls t)[g'.j]? = some false ∧ g'.y.pc = 8 ∨ (ls t)[g'.j]? = some true ∧ g'.y.pc = 3) ∧ g'.y.dn = false)
    (hjn : effWS t m.ss e ≠ [] → ∃ s, s < n ∧ 1 ≤ rlk (ls s) (updG gs t g' s) + row (ls s) (updG gs t g' s) + rwk (ls s) (updG gs t g' s))
    (hfo : ∃ L w, RwFo n (fun s => rlk (ls s) (updG gs t g' s)) (fun s => row (ls s) (updG gs t g' s)) (effWA (m.k + 1) t m.al e) L w)
    (hp : rlp v' (ls t) g' + 6 * m.ss.length + 8 * d + 1 ≤ rlp v (ls t) g + 6 * (effWS t m.ss e).length) : ∃ gs' v', RwJ B n ls gs' v' (stepZ m t).2 := by
  obtain ⟨ht, hdn, hno⟩ := h.sys.can hc
  obtain ⟨hs, e1, e2, e3, e4⟩ := h.sys.ls hc hk hgt hl
  have hn8 := h.hn
  have hl1 := ss_len h.sys.wf
  have hl2 := ss_len hs.wf
  rw [h.sys.ln] at hl1
  rw [hs.ln, e1] at hl2
  refine ⟨updG gs t g', v', hs, h.hn, fun s hsn => ?_, hex, fun s hsm => ?_, ?_, ?_, ?_⟩
  · by_cases hst : s = t
    · subst hst; rw [updG_same]; exact hT
    · rw [updG_ne _ _ hst]; exact h.th s hsn
  · rw [e1] at hsm
    rcases hsl s hsm with hs' | ⟨rfl, h1, h2⟩
    · obtain ⟨h1, h2⟩ := h.sl s hs'
      have hst : s.t.toNat ≠ t := fun e => by
        have := h.sys.wf.ss.2 s hs'
        exact hno s hs' (by omega)
      rw [updG_ne _ _ hst]
      exact ⟨h1, h2⟩
    · show 0 = 0 ∧ (((ls ((t : Int).toNat))[(updG gs t g' (t : Int).toNat).j]? = some false ∧ _ ∨ _) ∧ _)
      rw [Int.toNat_natCast, updG_same]
      exact ⟨rfl, h1, h2⟩
  · rw [e1]; exact hjn
  · rw [e2]; exact hfo
  · rw [e1, e4]
    have hpot := h.pot
    have hsum := rsum_upd (n := n) (t := t) (g := fun s => rlp v' (ls s) (updG gs t g' s)) (h := fun s => rlp v (ls s) (gs s) + d) ht fun s _ hne => by
      rw [updG_ne _ _ hne]
      exact rlp_mono (by omega) _ _
    try dsimp only at hsum
    rw [updG_same, rsum_plus, hgt] at hsum
    have hnd : n * d ≤ 8 * d := Nat.mul_le_mul_right _ hn8
    omega

/-- Others are as they were. -/
theorem updF {f : List Bool → GZ → Nat} {t : Nat} {g g' : GZ} (hgt : gs t = g) (he : f (ls t) g' = f (ls t) g) : (fun s => f (ls s) (updG gs t g' s)) = fun s => f (ls s) (gs s) := by
  funext s
  by_cases hst : s = t
  · subst hst; rw [updG_same, he, hgt]
  · rw [updG_ne _ _ hst]

theorem rw_step (h : RwJ B n ls gs v m) {t : Nat} (hc : canZ m t = true) (hk : m.k < 20000) : ∃ gs' v', RwJ B n ls gs' v' (stepZ m t).2 := by
  obtain ⟨ht, hd, hno⟩ := h.sys.can hc
  obtain ⟨g, hgt⟩ : ∃ g, gs t = g := ⟨_, rfl⟩
  have hT0 := h.th t ht
  rw [hgt] at hd hT0
  obtain ⟨g', v', e, hl, hT, hout⟩ := rw_local h.val hT0 hd
  have hex := h.ex
  have hlk := rsum_set (n := n) (gs := gs) (g := g) (fun s g => rlk (ls s) g) (g' := g') ht hgt
  have how := rsum_set (n := n) (gs := gs) (g := g) (fun s g => row (ls s) g) (g' := g') ht hgt
  try dsimp only at hlk how
  have hlk8 := rsum_const n 1 (fun t => rlk (ls t) (gs t)) fun s _ => rlk_le _ _
  have hn8 := h.hn
  have hl1 := ss_len h.sys.wf
  rw [h.sys.ln] at hl1
  obtain ⟨L, w, hfo⟩ := h.fo
  have kept : ∀ _ : Unit, effWS t m.ss e ≠ [] → (effWS t m.ss e = m.ss) → rlk (ls t) g' = rlk (ls t) g → row (ls t) g' = row (ls t) g → rwk (ls t) g ≤ rwk (ls t) g' → ∃ s, s < n ∧ 1 ≤ rlk (ls s) (updG gs t g' s) + row (ls s) (updG gs t g' s) + rwk (ls s) (updG gs t g' s) := fun _ hne he e1 e2 e3 => by
    rw [he] at hne
    obtain ⟨s, hs, hb⟩ := h.jn hne
    refine ⟨s, hs, ?_⟩
    by_cases hst : s = t
    · subst hst; rw [updG_same, e1, e2]; rw [hgt] at hb; omega
    · rw [updG_ne _ _ hst]; exact hb
  have mine : ∀ _ : Unit, 1 ≤ rlk (ls t) g' + row (ls t) g' + rwk (ls t) g' → ∃ s, s < n ∧ 1 ≤ rlk (ls s) (updG gs t g' s) + row (ls s) (updG gs t g' s) + rwk (ls s) (updG gs t g' s) := fun _ hb => ⟨t, ht, by rw [updG_same]; exact hb⟩
  have same (e1 : rlk (ls t) g' = rlk (ls t) g) (e2 : row (ls t) g' = row (ls t) g) : v = rsum n (fun s => rlk (ls s) (updG gs t g' s)) + 4294967296 * rsum n (fun s => row (ls s) (updG gs t g' s)) ∧ (rsum n (fun s => row (ls s) (updG gs t g' s)) = 0 ∨ rsum n (fun s => row (ls s) (updG gs t g' s)) = 1 ∧ rsum n (fun s => rlk (ls s) (updG gs t g' s)) = 0) := by
    rw [updF (ls := ls) (f := rlk) hgt e1, updF (ls := ls) (f := row) hgt e2]
    exact hex
  have fsame (al : List ActZ) (e1 : rlk (ls t) g' = rlk (ls t) g) (e2 : row (ls t) g' = row (ls t) g) (hf : rwFold al = some (L, w)) : ∃ L w, RwFo n (fun s => rlk (ls s) (updG gs t g' s)) (fun s => row (ls s) (updG gs t g' s)) al L w := by
    rw [updF (ls := ls) (f := rlk) hgt e1, updF (ls := ls) (f := row) hgt e2]
    exact ⟨L, w, hf, hfo.nd, hfo.mem, hfo.len, hfo.own⟩
  cases hout with
  | quiet hv he e1 e2 e3 hp =>
    subst hv
    have hss : effWS t m.ss e = m.ss := by rcases he with rfl | ⟨_, _, rfl⟩ | ⟨_, rfl, _⟩ <;> rfl
    refine rw_upd h hc hk hgt hl hT (.inl ⟨rfl, rfl⟩) (same e1 e2) (fun s hs => .inl (by rwa [hss] at hs)) (fun hne => kept () hne hss e1 e2 e3) (fsame _ e1 e2 ?_) (by rw [hss]; omega)
    rcases he with rfl | ⟨_, _, rfl⟩ | ⟨o, rfl, ho⟩
    · exact hfo.fold
    · exact hfo.fold
    · show rwFold (m.al ++ [_]) = _
      rw [rwFold_snoc, hfo.fold, rwF]
      try dsimp only
      rw [if_neg fun h => h.2.1 rfl, if_neg fun h => h.2 rfl, if_neg (by omega), if_neg (by omega)]
  | sleep hv h0 he e1 e2 hs hp =>
    subst hv he
    refine rw_upd h hc hk hgt hl hT (.inl ⟨rfl, rfl⟩) (same e1 e2) (fun s hs' => ?_) (fun _ => ?_) (fsame _ e1 e2 hfo.fold) (by show _ ≤ _ + 6 * (m.ss ++ [_]).length; rw [List.length_append]; simp only [List.length_singleton]; omega)
    · rcases List.mem_append.1 hs' with hs' | hs'
      · exact .inl hs'
      · exact .inr ⟨List.mem_singleton.1 hs', hs⟩
    · have : 1 ≤ rsum n (fun s => rlk (ls s) (updG gs t g' s)) ∨ 1 ≤ rsum n (fun s => row (ls s) (updG gs t g' s)) := by
        have := same e1 e2
        omega
      rcases this with h1 | h1
      · obtain ⟨s, hs, h2⟩ := rsum_pos h1
        exact ⟨s, hs, by omega⟩
      · obtain ⟨s, hs, h2⟩ := rsum_pos h1
        exact ⟨s, hs, by omega⟩
  | wake hv he e1 e2 hp =>
    subst hv he
    have hss : effWS t m.ss (.wake 0 16) = [] := wake_all (fun s hs => (h.sl s hs).1) (by omega)
    refine rw_upd h hc hk hgt hl hT (.inl ⟨rfl, rfl⟩) (same e1 e2) (fun s hs' => ?_) (fun hne => absurd hss hne) (fsame _ e1 e2 hfo.fold) (by rw [hss]; simp only [List.length_nil]; omega)
    rw [hss] at hs'
    cases hs'
  | look hv h8 he e1 e2 hp =>
    subst hv he
    rw [updF (ls := ls) (f := row) hgt e2] at how
    have hown : rsum n (fun s => row (ls s) (gs s)) = 0 := by omega
    have hww : w = -1 := by
      rcases hfo.own with h1 | ⟨s, hs, h1, h2, h3⟩
      · exact h1.1
      · omega
    refine rw_upd h hc hk hgt hl hT (.inr rfl) ?_ (fun s hs => .inl hs) (fun _ => mine () (by omega)) ?_ (by show _ ≤ _ + 6 * m.ss.length; omega)
    · rw [updF (ls := ls) (f := row) hgt e2]
      omega
    · have hnot : ¬ (t : Int) ∈ L := fun hm => by
        obtain ⟨s, hs, h1, h2⟩ := (hfo.mem _).1 hm
        obtain rfl : t = s := by omega
        rw [hgt] at h2
        omega
      refine ⟨L ++ [(t : Int)], w, ?_⟩
      rw [updF (ls := ls) (f := row) hgt e2]
      refine ⟨?_, ?_, fun x => ?_, ?_, hfo.own⟩
      · show rwFold (m.al ++ [_]) = _
        rw [rwFold_snoc, hfo.fold, rwF]
        try dsimp only
        rw [if_neg (by omega), if_pos (by omega), if_neg]
        rintro (h | h | h | h | h)
        · omega
        · exact hnot h
        · exact h rfl
        · omega
        · omega
      · rw [List.nodup_append]
        exact ⟨hfo.nd, by simp, fun a ha b hb => fun e => hnot (by rw [← List.mem_singleton.1 hb, ← e]; exact ha)⟩
      · rw [List.mem_append, List.mem_singleton, hfo.mem]
        constructor
        · rintro (⟨s, hs, h1, h2⟩ | rfl)
          · refine ⟨s, hs, h1, ?_⟩
            try dsimp only at h2 ⊢
            rw [updG_ne _ _ (fun e => by subst e; rw [hgt] at h2; omega)]
            exact h2
          · exact ⟨t, ht, rfl, by rw [updG_same]; exact e1.2⟩
        · rintro ⟨s, hs, h1, h2⟩
          try dsimp only at h2
          by_cases hst : s = t
          · subst hst; exact .inr h1
          · rw [updG_ne _ _ hst] at h2
            exact .inl ⟨s, hs, h1, h2⟩
      · rw [List.length_append, hfo.len]
        simp only [List.length_singleton]
        omega
  | own hv hv' he e1 e2 hp =>
    subst hv hv' he
    rw [updF (ls := ls) (f := rlk) hgt e1] at hlk
    have hL : L = [] := List.length_eq_zero_iff.1 (by rw [hfo.len]; omega)
    have hww : w = -1 := by
      rcases hfo.own with h1 | ⟨s, hs, h1, h2, h3⟩
      · exact h1.1
      · omega
    refine rw_upd h hc hk hgt hl hT (.inr rfl) ?_ (fun s hs => .inl hs) (fun _ => mine () (by omega)) ?_ (by show _ ≤ _ + 6 * m.ss.length; omega)
    · rw [updF (ls := ls) (f := rlk) hgt e1]
      omega
    · refine ⟨L, t, ?_⟩
      rw [updF (ls := ls) (f := rlk) hgt e1]
      refine ⟨?_, hfo.nd, hfo.mem, hfo.len, .inr ⟨t, ht, rfl, ?_, by omega⟩⟩
      · show rwFold (m.al ++ [_]) = _
        rw [rwFold_snoc, hfo.fold, rwF]
        try dsimp only
        rw [if_pos ⟨rfl, by decide, rfl⟩, if_neg]
        rintro (h | h)
        · omega
        · exact h hL
      · try dsimp only
        rw [updG_same]
        exact e2.2
  | unlook hv he e1 e2 hw hp =>
    subst he
    rw [updF (ls := ls) (f := row) hgt e2] at how
    have h1 := rsum_one (n := n) (t := t) (g := fun s => rlk (ls s) (gs s)) ht
    try dsimp only at h1
    rw [hgt] at h1
    have hown : rsum n (fun s => row (ls s) (gs s)) = 0 := by omega
    have hv' : v' = v - 1 := hv (by omega) (by omega)
    refine rw_upd h hc hk hgt hl hT (.inr rfl) ?_ (fun s hs => .inl hs) (fun _ => mine () (by omega)) ?_ (by show _ ≤ _ + 6 * m.ss.length; omega)
    · rw [updF (ls := ls) (f := row) hgt e2]
      omega
    · have hin : (t : Int) ∈ L := (hfo.mem _).2 ⟨t, ht, rfl, by rw [hgt]; exact e1.1⟩
      refine ⟨L.erase (t : Int), w, ?_⟩
      rw [updF (ls := ls) (f := row) hgt e2]
      refine ⟨?_, hfo.nd.erase _, fun x => ?_, ?_, hfo.own⟩
      · show rwFold (m.al ++ [_]) = _
        rw [rwFold_snoc, hfo.fold, rwF]
        try dsimp only
        rw [if_neg (fun h => absurd h.1 (by decide)), if_neg (fun h => absurd h.1 (by decide)), if_pos rfl, if_pos hin]
      · rw [hfo.nd.mem_erase_iff, hfo.mem]
        constructor
        · rintro ⟨hne, s, hs, h1, h2⟩
          refine ⟨s, hs, h1, ?_⟩
          try dsimp only at h2 ⊢
          rw [updG_ne _ _ (fun e => hne (by rw [h1, e]))]
          exact h2
        · rintro ⟨s, hs, h1, h2⟩
          try dsimp only at h2
          by_cases hst : s = t
          · subst hst; rw [updG_same] at h2; omega
          · rw [updG_ne _ _ hst] at h2
            exact ⟨fun e => hst (by omega), s, hs, h1, h2⟩
      · rw [List.length_erase_of_mem hin, hfo.len]
        omega
  | disown hv he e1 e2 hw hp =>
    subst he hv
    rw [updF (ls := ls) (f := rlk) hgt e1] at hlk
    have h1 := rsum_one (n := n) (t := t) (g := fun s => row (ls s) (gs s)) ht
    try dsimp only at h1
    rw [hgt] at h1
    have hww : w = t := by
      rcases hfo.own with h2 | ⟨s, hs, h2, h3, h4⟩
      · omega
      · by_cases hst : s = t
        · subst hst; exact h2
        · have h5 := rsum_pair (g := fun s => row (ls s) (gs s)) ht hs hst
          try dsimp only at h3 h5
          rw [hgt] at h5
          omega
    refine rw_upd h hc hk hgt hl hT (.inr rfl) ?_ (fun s hs => .inl hs) (fun _ => mine () (by omega)) ?_ (by show _ ≤ _ + 6 * m.ss.length; omega)
    · rw [updF (ls := ls) (f := rlk) hgt e1]
      omega
    · refine ⟨L, -1, ?_⟩
      rw [updF (ls := ls) (f := rlk) hgt e1]
      refine ⟨?_, hfo.nd, hfo.mem, hfo.len, .inl ⟨rfl, by omega⟩⟩
      · show rwFold (m.al ++ [_]) = _
        rw [rwFold_snoc, hfo.fold, rwF]
        try dsimp only
        rw [if_neg (fun h => absurd h.1 (by decide)), if_neg (fun h => absurd h.1 (by decide)), if_neg (by decide), if_pos rfl, if_pos hww]

def RwI (B n : Nat) (ls : Nat → List Bool) (m : MZ) : Prop := ∃ gs v, RwJ B n ls gs v m

theorem RwJ.mono {B' : Nat} (h : RwJ B n ls gs v m) (hb : B ≤ B') : RwJ B' n ls gs v m :=
  ⟨h.sys, h.hn, h.th, h.ex, h.sl, h.jn, h.fo, Nat.le_trans h.pot hb⟩

theorem RwI.step (h : RwI B n ls m) (t : Int) : RwI B n ls (stepZ m t).2 := by
  obtain ⟨gs, v, h⟩ := h
  rcases step_or h.sys.wf t with e | ⟨s, rfl, hc, hk⟩
  · rw [e]; exact ⟨gs, v, h⟩
  · exact rw_step h hc hk

theorem RwJ.poke (h : RwJ B n ls gs v m) (t : Int) : RwJ (B + 6) n ls gs v (pokeZ m t) := by
  refine ⟨h.sys.poke t, h.hn, h.th, h.ex, fun s hs => h.sl s (List.mem_filter.1 hs).1, fun hne => ?_, h.fo, ?_⟩
  · exact h.jn (fun e => hne (by show m.ss.filter _ = []; rw [e]; rfl))
  · have h1 := h.pot
    have h2 := filter_lenS (t := t) h.sys.wf.ss.1
    show m.k + (rsum n (fun t => rlp v (ls t) (gs t)) + 6 * (n - (m.ss.filter fun s => s.t != t).length)) ≤ B + 6
    omega

end

theorem rwB_ok (b : Bool) : ∀ i ∈ rwB b, okI 1 (((rwB b).length : Int) + 1) i = true := by cases b <;> decide

theorem rwB_len (b : Bool) : (rwB b).length ≤ 14 := by cases b <;> decide

theorem rw_right {l : List Bool} (hl : l.length ≤ 6) : rightZ (catP (l.map rwB)) 1 = true := by
  refine catP_right (by decide) (fun b hb => ?_) ?_
  · obtain ⟨c, _, rfl⟩ := List.mem_map.1 hb
    exact rwB_ok c
  · have := offB_le (n := 14) (l.map rwB) (fun b hb => by obtain ⟨c, _, rfl⟩ := List.mem_map.1 hb; exact rwB_len c) (l.map rwB).length
    rw [List.length_map] at this ⊢
    omega

def rwM (ll : List (List Bool)) : MZ := mz0 (ll.map fun l => catP (l.map rwB)) [0]

theorem rw_init {ll : List (List Bool)} (hn : ll.length ≤ 8) (hl : ∀ l ∈ ll, l.length ≤ 6) : RwJ 7560 ll.length (lsF ll) (fun _ => ⟨0, th0⟩) 0 (rwM ll) := by
  have hts : ∀ t, t < ll.length → (rwM ll).ts[t]? = some th0 := fun t ht => by
    show (List.replicate (ll.map _).length th0)[t]? = _
    rw [List.length_map, List.getElem?_replicate, if_pos ht]
  have e1 : ∀ l : List Bool, rlk l ⟨0, th0⟩ = 0 := fun l => rlk_0 l 0 _
  have e2 : ∀ l : List Bool, row l ⟨0, th0⟩ = 0 := fun l => row_0 l 0 _
  have s0 : rsum ll.length (fun _ => 0) = 0 := rsum_zero fun _ _ => rfl
  refine ⟨⟨mz0_wf (by simp; omega) (by simp) (fun p hp => ?_) (by simp), by simp [rwM, mz0], rfl, fun t ht => ?_, rfl, fun t ht => ?_⟩, hn, fun t ht => ?_, ?_, (fun s hs => by cases hs), fun h => absurd rfl h, ?_, ?_⟩
  · obtain ⟨l, hl', rfl⟩ := List.mem_map.1 hp
    exact rw_right (hl l hl')
  · show (ll.map _)[t]? = _
    rw [List.getElem?_map, lsF_get ht]; rfl
  · rw [hts t ht]; rfl
  · refine ⟨0, 0, 0, 0, rfl, .inr ⟨rfl, ?_⟩⟩
    cases h : (lsF ll t)[0]? with
    | none => exact .inr ⟨by have := List.getElem?_eq_none_iff.1 h; show 0 = _; omega, rfl⟩
    | some c =>
      refine .inl ⟨c, by first | exact h | rfl, ?_⟩
      cases c <;> simp [rwOk]
  · simp only [e1, e2, s0]
    decide
  · simp only [e1, e2]
    refine ⟨[], -1, rfl, List.nodup_nil, fun x => by simp, ?_, .inl ⟨rfl, s0⟩⟩
    rw [s0]; rfl
  · have h1 : rsum ll.length (fun t => rlp 0 (lsF ll t) ⟨0, th0⟩) ≤ ll.length * 937 := rsum_const _ _ _ fun t ht => by
      have h1 := rlp_0 0 (lsF ll t) 0 th0.rg
      have h2 := hl _ (lsF_mem ht)
      show rlp 0 (lsF ll t) ⟨0, ⟨0, th0.rg, false⟩⟩ ≤ 937
      omega
    have h2 : ll.length * 937 ≤ 8 * 937 := Nat.mul_le_mul_right _ hn
    show 0 + (_ + 6 * (ll.length - 0)) ≤ 7560
    omega

theorem rw_moves {ll : List (List Bool)} (hn : ll.length ≤ 8) (hl : ∀ l ∈ ll, l.length ≤ 6) (ms : List MoveZ) :
    RwI (7560 + 6 * ms.length) ll.length (lsF ll) (movesZ (rwM ll) ms) := by
  have := moves_inv (P := fun i m => RwI (7560 + 6 * i) ll.length (lsF ll) m)
    (fun i m t h => by obtain ⟨gs, v, h⟩ := h.step t; exact ⟨gs, v, h.mono (by omega)⟩) (fun i m t h => by obtain ⟨gs, v, h⟩ := h; exact ⟨gs, v, (h.poke t).mono (by omega)⟩) ms 0 _ ⟨_, _, rw_init hn hl⟩
  rw [Nat.zero_add] at this
  exact this

/-- Behind anything, in the end: all are at their ends, and it is free. -/
theorem rw_fin {B n : Nat} {ls : Nat → List Bool} {z : MZ} (h : RwI B n ls z) (hb : B < 20000) : RwI B n ls (finish z) ∧ allZ (finish z) = true ∧ stuckZ (finish z) = false ∧ (finish z).ws = [0] := by
  have hw : WF z := by obtain ⟨_, _, h⟩ := h; exact h.sys.wf
  obtain ⟨h1, hno⟩ := fin_stop (P := RwI B n ls) (fun m t h => h.step t) (fun m h => by obtain ⟨_, _, h⟩ := h; have := h.pot; omega) h hw
  refine ⟨h1, ?_⟩
  obtain ⟨gs, v, hJ⟩ := h1
  generalize finish z = y at hJ hno
  have done {t : Nat} (ht : t < n) (hd : (gs t).y.dn = true) : (gs t).j = (ls t).length := by
    obtain ⟨r1, r2, r3, r4, _, h1 | ⟨h1, _⟩⟩ := hJ.th t ht
    · exact h1.2
    · rw [hd] at h1; cases h1
  have stop {t : Nat} (ht : t < n) : rlk (ls t) (gs t) + row (ls t) (gs t) + rwk (ls t) (gs t) = 0 := by
    rcases hJ.sys.stop hno ht with hd | ⟨s, hs, e⟩
    · have hb : (ls t)[(gs t).j]? = none := List.getElem?_eq_none_iff.2 (by have := done ht hd; omega)
      rw [rlk, row, rwk, hb]
      rfl
    · obtain ⟨_, h1, _⟩ := hJ.sl s hs
      rw [e, Int.toNat_natCast] at h1
      rcases h1 with ⟨h1, h2⟩ | ⟨h1, h2⟩
      · rw [rlk, row, rwk, h1, h2]
        rfl
      · rw [rlk, row, rwk, h1, h2]
        rfl
  have hss : y.ss = [] := Classical.byContradiction fun hne => by
    obtain ⟨t, ht, hb⟩ := hJ.jn hne
    have := stop ht
    omega
  have hd := hJ.sys.all hno hss
  refine ⟨all_ofS hd, stuck_ofS hd, ?_⟩
  rw [hJ.sys.ws]
  have h1 := rsum_zero (n := n) (g := fun t => rlk (ls t) (gs t)) fun s hs => by have := stop hs; omega
  have h2 := rsum_zero (n := n) (g := fun t => row (ls t) (gs t)) fun s hs => by have := stop hs; omega
  have := hJ.ex
  rw [h1, h2] at this
  rw [show v = 0 by omega]

end Go.Mac
