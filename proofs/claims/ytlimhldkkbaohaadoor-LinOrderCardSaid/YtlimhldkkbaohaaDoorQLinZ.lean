/- What points there are, call by call; and that they are told in order. -/
import Derived.Test.YtlimhldkkbaohaaDoorQPtsZ
import Derived.Test.YtlimhldkkbaohaaDoorQSortZ
open Go Go.Proofs Go.Mac
set_option maxRecDepth 100000
namespace Go.Mac

/-- A stable order is one. -/
theorem Srt.uniq : ∀ {a b : List PtZ}, Srt a → Srt b → (∀ k : Int, b.filter (fun x => x.w == k) = a.filter (fun x => x.w == k)) → b = a
  | [], [], _, _, _ => rfl
  | [], y :: b, _, _, h => by
    have := h y.w
    rw [List.filter_cons, if_pos (by simp)] at this
    cases this
  | x :: a, [], _, _, h => by
    have := h x.w
    rw [List.filter_cons, if_pos (by simp)] at this
    cases this
  | x :: a, y :: b, ha, hb, h => by
    have hxb : x ∈ y :: b := by
      have : x ∈ (y :: b).filter (fun z => z.w == x.w) := by rw [h]; simp
      exact (List.mem_filter.1 this).1
    have hya : y ∈ x :: a := by
      have : y ∈ (x :: a).filter (fun z => z.w == y.w) := by rw [← h]; simp
      exact (List.mem_filter.1 this).1
    have h1 : y.w ≤ x.w := by
      rcases List.mem_cons.1 hxb with rfl | hm
      · exact Int.le_refl _
      · exact List.rel_of_pairwise_cons hb hm
    have h2 : x.w ≤ y.w := by
      rcases List.mem_cons.1 hya with rfl | hm
      · exact Int.le_refl _
      · exact List.rel_of_pairwise_cons ha hm
    have hw : y.w = x.w := by omega
    have e := h x.w
    rw [List.filter_cons, List.filter_cons, if_pos (by simpa using hw), if_pos (by simp)] at e
    obtain ⟨rfl, e⟩ := List.cons.inj e
    rw [Srt.uniq (List.Pairwise.of_cons ha) (List.Pairwise.of_cons hb) fun k => ?_]
    have := h k
    rw [List.filter_cons, List.filter_cons] at this
    by_cases hk : y.w = k
    · subst hk
      exact e
    · rw [if_neg (by simpa using hk), if_neg (by simpa using hk)] at this
      exact this

theorem St.key {l l' : List PtZ} (h : St l l') (p : PtZ → Bool) (hp : Srt (l.filter p)) : l'.filter p = l.filter p := by
  refine Srt.uniq hp (List.Pairwise.sublist List.filter_sublist h.1) fun k => ?_
  have := h.2.flt k
  rw [List.filter_filter, List.filter_filter]
  rw [show (fun x : PtZ => x.w == k && p x) = fun x => p x && (x.w == k) from funext fun x => Bool.and_comm _ _, ← List.filter_filter, ← List.filter_filter, this]

/-! ### Call by call -/

/-- When the call ahead was answered. -/
def prevT (ws : List Int) (k : Nat) : Int := if k = 0 then 0 else ws.getD (k - 1) 0

def callPts (t : Nat) (acts : List ActZ) (cs : List CallZ) (ws : List Int) (k : Nat) : List PtZ :=
  match cs[k]? with
  | none => []
  | some c => match ws[k]? with
    | some w => effZ t k c.w acts (prevT ws k) w true
    | none => if k = ws.length then effZ t k c.w acts (prevT ws k) 9223372036854775807 false else []

theorem thrPts_flat (t : Nat) (acts : List ActZ) (cs : List CallZ) (ws : List Int) : ∀ (m k : Nat), m = cs.length - k → k ≤ ws.length →
    thrPts t acts (cs.drop k) k (prevT ws k) (ws.drop k) = (((List.range cs.length).drop k).map (callPts t acts cs ws)).flatten := by
  intro m
  induction m with
  | zero =>
    intro k hm _
    rw [List.drop_eq_nil_of_le (show cs.length ≤ k by omega), List.drop_eq_nil_of_le (show (List.range cs.length).length ≤ k by rw [List.length_range]; omega), thrPts]
    rfl
  | succ m ih =>
    intro k hm hk
    have hkl : k < cs.length := by omega
    rw [List.drop_eq_getElem_cons hkl, List.drop_eq_getElem_cons (show k < (List.range cs.length).length by simpa using hkl), List.map_cons, List.flatten_cons, List.getElem_range]
    have hc : cs[k]? = some cs[k] := List.getElem?_eq_getElem hkl
    rcases Nat.lt_or_eq_of_le hk with hlt | rfl
    · have hw : ws[k]? = some ws[k] := List.getElem?_eq_getElem hlt
      have hp : prevT ws (k + 1) = ws[k] := by
        rw [prevT, if_neg (by omega), Nat.add_sub_cancel, List.getD_eq_getElem?_getD, hw]
        rfl
      rw [List.drop_eq_getElem_cons hlt, thrPts, ← hp, ih (k + 1) (by omega) (by omega), callPts, hc]
      dsimp only
      rw [hw]
      dsimp only
      rw [hp]
    · have hz : ∀ L : List Nat, (∀ j ∈ L, ws.length < j) → (L.map (callPts t acts cs ws)).flatten = [] := by
        intro L
        induction L with
        | nil => intro _; rfl
        | cons j L ih2 =>
          intro hL
          have hj := hL j (List.mem_cons_self ..)
          rw [List.map_cons, List.flatten_cons, ih2 fun i hi => hL i (List.mem_cons_of_mem _ hi), List.append_nil, callPts]
          cases cs[j]? with
          | none => rfl
          | some c =>
            dsimp only
            rw [List.getElem?_eq_none (by omega)]
            dsimp only
            rw [if_neg (by omega)]
      rw [List.drop_length, thrPts, hz _ (fun j hj => ?_), List.append_nil, callPts, hc]
      · dsimp only
        rw [List.getElem?_eq_none (Nat.le_refl _)]
        dsimp only
        rw [if_pos rfl]
      · obtain ⟨i, hi⟩ := List.mem_iff_getElem?.1 hj
        rw [List.getElem?_drop] at hi
        obtain ⟨h1, rfl⟩ := List.getElem?_eq_some_iff.1 hi
        rw [List.getElem_range]
        omega

theorem thrPts_all (t : Nat) (acts : List ActZ) (cs : List CallZ) (ws : List Int) : thrPts t acts cs 0 0 ws = ((List.range cs.length).map (callPts t acts cs ws)).flatten :=
  thrPts_flat t acts cs ws _ 0 rfl (Nat.zero_le _)

def keyB (t k : Int) (x : PtZ) : Bool := x.t == t && x.k == k

theorem keyB_iff {t k : Int} {x : PtZ} : keyB t k x = true ↔ x.t = t ∧ x.k = k := by simp [keyB]

theorem efPts_key {t k w : Int} {done : Bool} {s : EfS} {x : PtZ} (h : x ∈ efPts t k w done s) : x.t = t ∧ x.k = k := by
  cases s <;> simp only [efPts] at h <;> (try split at h) <;> simp at h <;> (try rcases h with rfl | rfl) <;> (try subst h) <;> exact ⟨rfl, rfl⟩

theorem callPts_key {t : Nat} {acts : List ActZ} {cs : List CallZ} {ws : List Int} {k : Nat} {x : PtZ} (h : x ∈ callPts t acts cs ws k) : x.t = t ∧ x.k = k := by
  rw [callPts] at h
  cases hc : cs[k]? with
  | none => rw [hc] at h; simp at h
  | some c =>
    rw [hc] at h
    dsimp only at h
    cases hw : ws[k]? with
    | none =>
      rw [hw] at h
      dsimp only at h
      split at h
      · exact efPts_key h
      · simp at h
    | some w =>
      rw [hw] at h
      exact efPts_key h

theorem flat_one {f : Nat → List PtZ} {p : PtZ → Bool} {k : Nat} (h : ∀ j, j ≠ k → ∀ x ∈ f j, p x = false) : ∀ n, (((List.range n).map f).flatten).filter p = if k < n then (f k).filter p else [] := by
  intro n
  induction n with
  | zero => rfl
  | succ n ih =>
    rw [List.range_succ, List.map_append, List.flatten_append, List.filter_append, ih]
    simp only [List.map_cons, List.map_nil, List.flatten_cons, List.flatten_nil, List.append_nil]
    by_cases hn : n = k
    · subst hn
      rw [if_neg (by omega), if_pos (by omega)]
      rfl
    · have : (f n).filter p = [] := by
        rw [List.filter_eq_nil_iff]
        intro x hx
        rw [h n hn x hx]
        decide
      rw [this, List.append_nil]
      by_cases hk : k < n
      · rw [if_pos hk, if_pos (by omega)]
      · rw [if_neg hk, if_neg (by omega)]

theorem callPts_filter (t : Nat) (acts : List ActZ) (cs : List CallZ) (ws : List Int) (k : Nat) : (callPts t acts cs ws k).filter (keyB t k) = callPts t acts cs ws k := by
  rw [List.filter_eq_self]
  intro x hx
  exact keyB_iff.2 (callPts_key hx)

theorem thr_key (t : Nat) (acts : List ActZ) (cs : List CallZ) (ws : List Int) (k : Nat) : (thrPts t acts cs 0 0 ws).filter (keyB t k) = callPts t acts cs ws k := by
  rw [thrPts_all, flat_one (k := k) fun j hj x hx => ?_, callPts_filter]
  · split
    · rfl
    · rename_i h
      rw [callPts, List.getElem?_eq_none (by omega)]
  · have := callPts_key hx
    rw [Bool.eq_false_iff]
    intro he
    have := keyB_iff.1 he
    omega

theorem thrPts_t {t : Nat} {acts : List ActZ} {cs : List CallZ} {ws : List Int} {x : PtZ} (h : x ∈ thrPts t acts cs 0 0 ws) : x.t = t ∧ ∃ k : Nat, x.k = k ∧ k < cs.length := by
  rw [thrPts_all] at h
  obtain ⟨l, hl, hx⟩ := List.mem_flatten.1 h
  obtain ⟨k, hk, rfl⟩ := List.mem_map.1 hl
  obtain ⟨h1, h2⟩ := callPts_key hx
  exact ⟨h1, k, h2, List.mem_range.1 hk⟩

/-- A call's points among all. -/
theorem allPts_key {calls : List (List CallZ)} (acts : List ActZ) (el : List EvZ) {t : Nat} {cs : List CallZ} (h : calls[t]? = some cs) (k : Nat) : (allPts calls acts el).filter (keyB t k) = callPts t acts cs (endT t el) k := by
  rw [allPts, flat_one (k := t) fun j hj x hx => ?_]
  · rw [if_pos (List.getElem?_eq_some_iff.1 h).1, List.getD_eq_getElem?_getD, h]
    exact thr_key t acts cs _ k
  · have := (thrPts_t hx).1
    rw [Bool.eq_false_iff]
    intro he
    have := keyB_iff.1 he
    omega

theorem allPts_mem {calls : List (List CallZ)} {acts : List ActZ} {el : List EvZ} {x : PtZ} (h : x ∈ allPts calls acts el) : ∃ (t k : Nat) (cs : List CallZ) (c : CallZ), x.t = t ∧ x.k = k ∧ calls[t]? = some cs ∧ cs[k]? = some c ∧ x ∈ callPts t acts cs (endT t el) k := by
  have hx := h
  rw [allPts] at h
  obtain ⟨l, hl, hx2⟩ := List.mem_flatten.1 h
  obtain ⟨t, ht, rfl⟩ := List.mem_map.1 hl
  have ht := List.mem_range.1 ht
  have hcs : calls[t]? = some calls[t] := List.getElem?_eq_getElem ht
  rw [List.getD_eq_getElem?_getD, hcs] at hx2
  obtain ⟨h1, k, h2, h3⟩ := thrPts_t hx2
  have h3 : k < calls[t].length := h3
  refine ⟨t, k, _, _, h1, h2, hcs, List.getElem?_eq_getElem h3, ?_⟩
  rw [← allPts_key acts el hcs k]
  exact List.mem_filter.2 ⟨hx, keyB_iff.2 ⟨h1, h2⟩⟩

/-! ### In order -/

def Inc (acts : List ActZ) : Prop := acts.Pairwise fun a b => a.w < b.w

/-- What was found lies among a call's acts, and what changed is not behind the last one. -/
def EfOk (t frm to : Int) (done : Bool) (l : List ActZ) : EfS → Prop
  | .s0 => ∀ a ∈ l, hitB t frm to done a = false
  | .s1 w => ∃ a ∈ l, hitB t frm to done a = true ∧ a.w = w
  | .s2 w => ∃ a ∈ l, hitB t frm to done a = true ∧ a.w = w ∧ a.o = 9 ∧ a.x ≠ a.y
  | .s3 c w => (∃ a ∈ l, hitB t frm to done a = true ∧ a.w = c ∧ a.o = 9 ∧ a.x ≠ a.y) ∧ (∃ a ∈ l, hitB t frm to done a = true ∧ a.w = w) ∧ c ≤ w

theorem efRun_snoc (t frm to : Int) (done : Bool) (l : List ActZ) (a : ActZ) : efRun t frm to done (l ++ [a]) = if hitB t frm to done a = true then efStep (efRun t frm to done l) a else efRun t frm to done l := by
  rw [efRun, List.foldl_append]
  rfl

theorem EfOk.run (t frm to : Int) (done : Bool) : ∀ (m : Nat) (l : List ActZ), l.length = m → Inc l → EfOk t frm to done l (efRun t frm to done l) := by
  intro m
  induction m with
  | zero =>
    intro l hl _
    obtain rfl := List.length_eq_zero_iff.1 hl
    intro a ha
    simp at ha
  | succ m ih =>
    intro l hl hI
    obtain ⟨l, a, rfl⟩ : ∃ l' a, l = l' ++ [a] := ⟨l.dropLast, l.getLast (by intro h; simp [h] at hl), (List.dropLast_concat_getLast _).symm⟩
    have hla := List.pairwise_append.1 hI
    have h := ih l (by simpa using hl) hla.1
    have hlt : ∀ b ∈ l, b.w < a.w := fun b hb => hla.2.2 b hb a (by simp)
    have hm : ∀ b, b ∈ l → b ∈ l ++ [a] := fun b hb => List.mem_append_left _ hb
    have ham : a ∈ l ++ [a] := by simp
    rw [efRun_snoc]
    generalize efRun t frm to done l = s at h ⊢
    by_cases hh : hitB t frm to done a = true
    · rw [if_pos hh]
      unfold efStep
      by_cases hc : a.o = 9 ∧ a.x ≠ a.y
      · rw [if_pos hc]
        exact ⟨a, ham, hh, rfl, hc⟩
      · rw [if_neg hc]
        cases s with
        | s0 => exact ⟨a, ham, hh, rfl⟩
        | s1 w => exact ⟨a, ham, hh, rfl⟩
        | s2 c =>
          obtain ⟨b, hb, h1, h2, h3⟩ := h
          refine ⟨⟨b, hm b hb, h1, h2, h3⟩, ⟨a, ham, hh, rfl⟩, ?_⟩
          have := hlt b hb
          omega
        | s3 c w =>
          obtain ⟨⟨b, hb, h1, h2, h3⟩, _⟩ := h
          refine ⟨⟨b, hm b hb, h1, h2, h3⟩, ⟨a, ham, hh, rfl⟩, ?_⟩
          have := hlt b hb
          omega
    · rw [if_neg hh]
      cases s with
      | s0 =>
        intro b hb
        rcases List.mem_append.1 hb with hb | hb
        · exact h b hb
        · simp only [List.mem_singleton] at hb
          subst hb
          simpa using hh
      | s1 w =>
        obtain ⟨b, hb, h⟩ := h
        exact ⟨b, hm b hb, h⟩
      | s2 c =>
        obtain ⟨b, hb, h⟩ := h
        exact ⟨b, hm b hb, h⟩
      | s3 c w =>
        obtain ⟨⟨b, hb, h⟩, ⟨b2, hb2, h2⟩, h3⟩ := h
        exact ⟨⟨b, hm b hb, h⟩, ⟨b2, hm b2 hb2, h2⟩, h3⟩

/-- A call has no point, or one that is not late, or one more that is, of a Pass, behind it. -/
theorem effZ_form {t k w frm to : Int} {acts : List ActZ} {done : Bool} (hI : Inc acts) : effZ t k w acts frm to done = [] ∨ (∃ x, effZ t k w acts frm to done = [x] ∧ x.l = false) ∨ ∃ x y, effZ t k w acts frm to done = [x, y] ∧ x.l = false ∧ y.l = true ∧ x.w ≤ y.w ∧ w = 9 := by
  have h := EfOk.run t frm to done _ acts rfl hI
  rw [effZ]
  cases hs : efRun t frm to done acts with
  | s0 => exact .inl rfl
  | s1 v =>
    simp only [efPts]
    split
    · exact .inr (.inl ⟨_, rfl, rfl⟩)
    · exact .inl rfl
  | s2 v =>
    simp only [efPts]
    split
    · rename_i hw
      exact .inr (.inr ⟨_, _, rfl, rfl, rfl, Int.le_refl _, hw.1⟩)
    · exact .inr (.inl ⟨_, rfl, rfl⟩)
  | s3 c v =>
    rw [hs] at h
    simp only [efPts]
    split
    · rename_i hw
      exact .inr (.inr ⟨_, _, rfl, rfl, rfl, h.2.2, hw.1⟩)
    · exact .inr (.inl ⟨_, rfl, rfl⟩)

theorem callPts_form {t : Nat} {acts : List ActZ} {cs : List CallZ} {ws : List Int} {k : Nat} {c : CallZ} (hc : cs[k]? = some c) (hI : Inc acts) :
    callPts t acts cs ws k = [] ∨ (∃ x, callPts t acts cs ws k = [x] ∧ x.l = false) ∨ ∃ x y, callPts t acts cs ws k = [x, y] ∧ x.l = false ∧ y.l = true ∧ x.w ≤ y.w ∧ c.w = 9 := by
  rw [callPts, hc]
  dsimp only
  cases ws[k]? with
  | some w => exact effZ_form hI
  | none =>
    dsimp only
    split
    · exact effZ_form hI
    · exact .inl rfl

theorem callPts_srt {t : Nat} {acts : List ActZ} {cs : List CallZ} {ws : List Int} {k : Nat} {c : CallZ} (hc : cs[k]? = some c) (hI : Inc acts) : Srt (callPts t acts cs ws k) := by
  rcases callPts_form (t := t) (ws := ws) hc hI with h | ⟨x, h, _⟩ | ⟨x, y, h, _, _, h3, _⟩
  · rw [h]; exact List.Pairwise.nil
  · rw [h]; exact List.pairwise_singleton ..
  · rw [h]
    refine List.pairwise_cons.2 ⟨fun z hz => ?_, List.pairwise_singleton ..⟩
    simp only [List.mem_singleton] at hz
    subst hz
    exact h3

/-- A call's points, as they are told. -/
theorem told_key {calls : List (List CallZ)} {acts : List ActZ} {el : List EvZ} {pts : List PtZ} (hS : St (allPts calls acts el) pts) (hI : Inc acts) {t : Nat} {cs : List CallZ} (h : calls[t]? = some cs) {k : Nat} {c : CallZ} (hc : cs[k]? = some c) :
    pts.filter (keyB t k) = callPts t acts cs (endT t el) k := by
  have e := allPts_key acts el h k
  rw [← e]
  refine hS.key _ ?_
  rw [e]
  exact callPts_srt hc hI

def cntK (pts : List PtZ) (i : Nat) (t k : Int) : Nat := ((pts.take i).filter (keyB t k)).length

theorem ord_at {calls : List (List CallZ)} {acts : List ActZ} {el : List EvZ} {pts : List PtZ} (hS : St (allPts calls acts el) pts) (hI : Inc acts) {i : Nat} {x : PtZ} (hx : pts[i]? = some x) :
    ∃ (t k : Nat) (cs : List CallZ) (c : CallZ), x.t = t ∧ x.k = k ∧ calls[t]? = some cs ∧ cs[k]? = some c ∧ ((cntK pts i t k = 0 ∧ x.l = false) ∨ (cntK pts i t k = 1 ∧ x.l = true ∧ c.w = 9)) := by
  have hm : x ∈ allPts calls acts el := hS.2.mem.1 (List.mem_of_getElem? hx)
  obtain ⟨t, k, cs, c, h1, h2, h3, h4, _⟩ := allPts_mem hm
  refine ⟨t, k, cs, c, h1, h2, h3, h4, ?_⟩
  have hf := told_key hS hI h3 h4
  have hlt := (List.getElem?_eq_some_iff.1 hx).1
  have hsp : pts = pts.take i ++ x :: pts.drop (i + 1) := by
    conv => lhs; rw [← List.take_append_drop i pts]
    rw [List.drop_eq_getElem_cons hlt, (List.getElem?_eq_some_iff.1 hx).2]
  rw [hsp, List.filter_append, List.filter_cons, if_pos (keyB_iff.2 ⟨h1, h2⟩)] at hf
  rw [cntK]
  generalize (pts.take i).filter (keyB t k) = F at hf ⊢
  generalize (pts.drop (i + 1)).filter (keyB t k) = G at hf
  rcases callPts_form (t := t) (ws := endT t el) h4 hI with h | ⟨y, h, hy⟩ | ⟨y, z, h, hy, hz, _, hw⟩
  · rw [h] at hf
    simp at hf
  · rw [h] at hf
    cases F with
    | nil =>
      have hf : x :: G = [y] := hf
      obtain ⟨rfl, _⟩ := List.cons.inj hf
      exact .inl ⟨rfl, hy⟩
    | cons f F =>
      have := congrArg List.length hf
      simp only [List.length_append, List.length_cons, List.length_nil] at this
      omega
  · rw [h] at hf
    match F, hf with
    | [], hf =>
      have hf : x :: G = [y, z] := hf
      obtain ⟨rfl, _⟩ := List.cons.inj hf
      exact .inl ⟨rfl, hy⟩
    | [f], hf =>
      have hf : f :: x :: G = [y, z] := hf
      obtain ⟨_, hf⟩ := List.cons.inj hf
      obtain ⟨hxz, _⟩ := List.cons.inj hf
      exact .inr ⟨rfl, by rw [hxz]; exact hz, hw⟩
    | f :: g :: F, hf =>
      have := congrArg List.length hf
      simp only [List.length_append, List.length_cons, List.length_nil] at this
      omega

theorem cntK_succ {pts : List PtZ} {i : Nat} {x : PtZ} (hx : pts[i]? = some x) (t k : Int) : cntK pts (i + 1) t k = if keyB t k x = true then cntK pts i t k + 1 else cntK pts i t k := by
  rw [cntK, List.take_add_one, hx, List.filter_append]
  show (_ ++ [x].filter _).length = _
  rw [List.length_append, List.filter_cons]
  split
  · rfl
  · rfl

end Go.Mac
