/- Texts that belong together; the first of them: The machine of abstract values, part 6: loops, ways that meet, functions. -/
import Derived.Test.YtlimhldkkbaohaaGreatDoorMacB
import Derived.Orders

/- The machine of abstract values, part 6: loops, ways that meet, functions. -/
section
namespace Go.Mac
open Go

section
variable {B R : Nat → Prop} {w0 : World} {N : Nat} {L : Nat → Loc} {H : List PO} {P : Program} {w : World} {a : Act} {nt N0 : Nat} {T : Tm} {M : List Nat}
  {Q : Ex → Tm → List Nat → List PO → Prop}

theorem blt_lt {r n : Nat} (h : Nat.blt r n = true) : r < n := by simpa [Nat.blt_eq] using h

theorem lows_spec {n : Nat} : ∀ {cs : List Nat}, lowC.lows n cs = true → ∀ r ∈ cs, r < n
  | [], _, r, hr => by simp at hr
  | c :: cs, h, r, hr => by
    simp only [lowC.lows, cond_eq_ite] at h
    split at h
    · rename_i hc
      rcases List.mem_cons.1 hr with rfl | hr
      · exact blt_lt hc
      · exact lows_spec h r hr
    · cases h

theorem VC.low {n : Nat} : ∀ {x : CV} {v : Value}, lowC n x = true → VC N L x v → VC n L x v
  | .junk, _, _, h | .f _, _, _, h | .nilptr, _, _, h | .nilslc, _, _, h | .dslc _, _, _, h | .hslc _ _ _ _, _, _, h | .hptr _, _, _, h | .gpt _ _, _, _, h | .nilmap, _, _, h | .nilfunc, _, _, h | .niliface, _, _, h => by simpa [VC] using h
  | .ptr r _, _, hl, h | .rptr r _ _, _, hl, h | .iptr r _ _ _, _, hl, h | .slc r _ _ _ _, _, hl, h | .islc r _ _ _ _ _, _, hl, h | .map r, _, hl, h => by
    simp only [lowC] at hl
    simp only [VC] at h ⊢
    exact ⟨blt_lt hl, h.2⟩
  | .func f cs, _, hl, h => by
    simp only [lowC] at hl
    simp only [VC] at h ⊢
    exact ⟨lows_spec hl, h.2⟩
  | .iface t x, _, hl, h => by
    simp only [lowC] at hl
    simp only [VC] at h ⊢
    obtain ⟨y, h1, h2⟩ := h
    exact ⟨y, h1, h2.low hl⟩

theorem VCs.low {n : Nat} : ∀ {xs : List CV} {vs : List Value}, lowCs n xs = true → VCs N L xs vs → VCs n L xs vs
  | [], _, _, h => h
  | x :: xs, _, hl, ⟨y, ys, h1, h2, h3⟩ => by
    simp only [lowCs, cond_eq_ite] at hl
    split at hl
    · rename_i hx; exact ⟨y, ys, h1, h2.low hx, VCs.low hl h3⟩
    · cases hl

theorem VP.low {n : Nat} : ∀ {x : PV} {v : Value}, lowP n x = true → VP N L x v → VP n L x v
  | .c _, _, hl, h => VC.low hl h
  | .agg _, _, hl, ⟨vs, h1, h2⟩ => ⟨vs, h1, VCs.low hl h2⟩

theorem VPs.low {n : Nat} : ∀ {xs : List PV} {vs : List Value}, lowPs n xs = true → VPs N L xs vs → VPs n L xs vs
  | [], _, _, h => h
  | x :: xs, _, hl, ⟨y, ys, h1, h2, h3⟩ => by
    simp only [lowPs, cond_eq_ite] at hl
    split at hl
    · rename_i hx; exact ⟨y, ys, h1, h2.low hx, VPs.low hl h3⟩
    · cases hl

theorem VA.low {n : Nat} : ∀ {x : AV} {v : Value}, lowA n x = true → VA N L x v → VA n L x v
  | .u, _, _, _ => trivial
  | .p _, _, hl, h => VP.low hl h
  | .tup _, _, hl, ⟨vs, h1, h2⟩ => ⟨vs, h1, VPs.low hl h2⟩

theorem lowH_spec {n : Nat} : ∀ {H : List PO}, lowH n H = true → ∀ o ∈ H, lowO n o = true
  | [], _, o, ho => by simp at ho
  | x :: H, h, o, ho => by
    simp only [lowH, cond_eq_ite] at h
    split at h
    · rename_i hx
      rcases List.mem_cons.1 ho with rfl | ho
      · exact hx
      · exact lowH_spec h o ho
    · cases h

theorem lowT_spec {n : Nat} : ∀ {T : Tm}, lowT n T = true → ∀ i, lowA n (lk T i) = true
  | [], _, _ => rfl
  | (j, x) :: T, h, i => by
    simp only [lowT, cond_eq_ite] at h
    split at h
    · rename_i hx
      rw [lk_cons]
      split
      · exact hx
      · exact lowT_spec h i
    · cases h

/-- The heap's end is forgotten. -/
theorem Rel.take (h : Rel B R w0 L H w) {n : Nat} (hl : lowH n (H.take n) = true) (hn : n ≤ H.length) : Rel B R w0 L (H.take n) w := by
  have hget : ∀ {i : Nat} {o : PO}, (H.take n)[i]? = some o → H[i]? = some o := fun {i o} hi => by
    rw [List.getElem?_take] at hi
    split at hi
    · exact hi
    · cases hi
  have hlen : (H.take n).length = n := by simp; omega
  refine ⟨h.below, h.start, fun i o hi => ?_, fun i o b hi hb => ?_, fun i o b hi hb => h.ro i o b (hget hi) hb, h.sub⟩
  · have := h.obj i o (hget hi)
    rw [hlen]
    have hlo := lowH_spec hl o (List.mem_of_getElem? hi)
    cases o with
    | one cs =>
      obtain ⟨h1, h2, h3, h4, h5⟩ := this
      refine ⟨h1, h2, h3, h4, fun f x hx => ?_⟩
      obtain ⟨v, hv, hvr⟩ := h5 f x hx
      refine ⟨v, hv, hvr.low ?_⟩
      have : ∀ {cs : List CV} {f : Nat}, lowCs n cs = true → cs[f]? = some x → lowC n x = true := by
        intro cs
        induction cs with
        | nil => intro f _ hf; simp at hf
        | cons c cs ih =>
          intro f hc hf
          simp only [lowCs, cond_eq_ite] at hc
          split at hc
          · rename_i hc0
            cases f with
            | zero => simp at hf; subst hf; exact hc0
            | succ f => exact ih hc (by simpa using hf)
          · cases hc
      exact this hlo hx
    | rows _ _ _ => exact this
    | rows2 _ _ _ => exact this
    | rows2m _ _ => exact this
    | hnd _ _ _ _ => exact this
    | tab _ _ => exact this
    | errv _ => exact this
    | bld _ _ _ _ => exact this
    | mp _ _ _ _ => exact this
    | it d m since seen last =>
      obtain ⟨h0, h1, h2⟩ := this
      refine ⟨h0, h1, fun hd => ⟨?_, (h2 hd).2⟩⟩
      subst hd
      simpa [lowO, Nat.blt_eq] using hlo
    | rows3 _ _ _ => exact this
    | gone => exact this
  · obtain ⟨h1, h2, h3⟩ := h.own i o b (hget hi) hb
    exact ⟨h1, h2, fun j o' hj hb' => h3 j o' (hget hj) hb'⟩

/-- The named temporaries alone. -/
def pickK (T : Tm) : List Nat → (Tm → Prop) → Prop
  | [], k => k []
  | i :: is, k => fA (lk T i) fun v => pickK T is fun l => k ((i, v) :: l)

theorem pickK_spec {T : Tm} : ∀ {is : List Nat} {k : Tm → Prop}, pickK T is k → ∃ T', k T' ∧ ∀ i, lk T' i = .u ∨ lk T' i = lk T i
  | [], k, h => ⟨[], h, fun _ => .inl rfl⟩
  | i :: is, k, h => by
    simp only [pickK, fA_eq] at h
    obtain ⟨T', hk, hT⟩ := pickK_spec (is := is) h
    refine ⟨_, hk, fun j => ?_⟩
    rw [lk_cons]
    split
    · rename_i hj; subst hj; exact .inr rfl
    · exact hT j

/-- A state of a loop, or of a place where ways meet: the named temporaries, and the heap, are those of some x. -/
structure At {α : Type} (N0 : Nat) (tm : α → Tm) (hp : α → List PO) (M0 : List Nat) (T : Tm) (M : List Nat) (H : List PO) (I : α → Prop) : Prop where
  get : ∃ x T0, I x ∧ T0 = tm x ∧ (∀ i, lk T0 i = .u ∨ lk T0 i = lk T i) ∧ H.take (hp x).length = hp x ∧ lowT (hp x).length T0 = true ∧ lowH (hp x).length (hp x) = true ∧ (hp x).length ≤ H.length ∧ N0 ≤ (hp x).length ∧ (∀ i ∈ M, i ∈ M0)

theorem At.use {α : Type} {tm : α → Tm} {hp : α → List PO} {M0 : List Nat} {I : α → Prop} (h : At N0 tm hp M0 T M H I) {L0 : Nat → Loc} (hag : Agree N0 M L0 L) (hrel : Rel B R w0 L H w) (ht : TR H.length L nt T a) :
    ∃ x, I x ∧ N0 ≤ (hp x).length ∧ Agree N0 M0 L0 L ∧ Rel B R w0 L (hp x) w ∧ TR (hp x).length L nt (tm x) a := by
  obtain ⟨x, T0, hI, rfl, hT, hH, h1, h2, h3, h4, h5⟩ := h.get
  refine ⟨x, hI, h4, hag.sup fun i hi _ => h5 i hi, ?_, ?_, ht.defers, ht.room⟩
  · have := hrel.take (n := (hp x).length) (by rw [hH]; exact h2) h3
    rwa [hH] at this
  · intro i
    have hlo := lowT_spec h1 i
    rcases hT i with e | e
    · rw [e]; trivial
    · exact VA.low hlo (by rw [e]; exact ht.get i)

theorem At.mk' {α : Type} {tm : α → Tm} {hp : α → List PO} {M0 : List Nat} {I : α → Prop} (live : List Nat) (x : α) (hI : I x)
    (h : pickK T live fun T0 => T0 = tm x ∧ lowT (hp x).length T0 = true) (hH : H.take (hp x).length = hp x) (hl : lowH (hp x).length (hp x) = true) (hle : (hp x).length ≤ H.length) (hN : N0 ≤ (hp x).length)
    (hM : ∀ i ∈ M, i ∈ M0) : At N0 tm hp M0 T M H I := by
  obtain ⟨T0, ⟨h1, h2⟩, h3⟩ := pickK_spec h
  exact ⟨x, T0, hI, h1, h3, hH, h2, hl, hle, hN, hM⟩

/-- A LOOP: each round begins at some x, and ends at a lesser one, or leaves. -/
theorem SS.loop {c : Code} {α : Type} (I : α → Prop) (tm : α → Tm) (hp : α → List PO) (μ : α → Nat) (M0 : List Nat) (h0 : At N0 tm hp M0 T M H I)
    (hr : ∀ x, I x → SS P nt N0 c (tm x) M0 (hp x) fun e T' M' H' => match e with
      | .normal => At N0 tm hp M0 T' M' H' fun y => I y ∧ μ y < μ x
      | e => Q e T' M' H') : SS P nt N0 (.loop c) T M H Q := by
  refine ⟨fun B R w0 L0 L w a R0 h1 h2 h3 h4 h5 => ?_⟩
  let J : Nat → Act → World → Prop := fun n a' w' => ∃ L' x, N0 ≤ (hp x).length ∧ Agree N0 M0 L0 L' ∧ Rel B R w0 L' (hp x) w' ∧ TR (hp x).length L' nt (tm x) a' ∧ I x ∧ μ x = n
  let m : Act → World → Nat := fun a' w' => Classical.epsilon fun n => J n a' w' ∧ ∀ m, J m a' w' → n ≤ m
  have hm : ∀ n a' w', J n a' w' → J (m a' w') a' w' ∧ m a' w' ≤ n := by
    intro n a' w' hj
    have hex : ∃ n, J n a' w' ∧ ∀ m, J m a' w' → n ≤ m := by
      clear hr h0 h5
      induction n using Nat.strongRecOn with
      | _ n ih =>
        by_cases hm : ∃ m, m < n ∧ J m a' w'
        · obtain ⟨m, hlt, hpm⟩ := hm
          exact ih m hlt hpm
        · exact ⟨n, hj, fun m hpm => Nat.le_of_not_lt fun hlt => hm ⟨m, hlt, hpm⟩⟩
    have hs : J (m a' w') a' w' ∧ ∀ k, J k a' w' → m a' w' ≤ k := Classical.epsilon_spec hex
    exact ⟨hs.1, hs.2 n hj⟩
  obtain ⟨x0, hI0, g1, g2, g3, g4⟩ := h0.use h2 h3 h4
  refine wp_loop (fun a' w' => ∃ n, J n a' w') m ⟨_, L, x0, g1, g2, g3, g4, hI0, rfl⟩ ?_
  rintro a1 w1 ⟨n1, hj1⟩
  obtain ⟨⟨L1, x1, k1, k2, k3, k4, k5, k6⟩, _⟩ := hm n1 a1 w1 hj1
  refine (hr x1 k5).run B R w0 L0 L1 w1 a1 _ k1 k2 k3 k4 ?_
  intro e L' T' M' H' w' a' j1 j2 j3 j4 j5
  cases e with
  | normal =>
    obtain ⟨x2, ⟨hI2, hlt⟩, i1, i2, i3, i4⟩ := At.use j5 j2 j3 j4
    have hj2 : J (μ x2) a' w' := ⟨L', x2, i1, i2, i3, i4, hI2, rfl⟩
    have := (hm _ a' w' hj2).2
    exact ⟨⟨_, hj2⟩, by omega⟩
  | exit i => exact h5 (.exit i) L' T' M' H' w' a' j1 j2 j3 j4 j5
  | ret => exact h5 .ret L' T' M' H' w' a' j1 j2 j3 j4 j5

/-- WAYS MEET: behind x it goes on from some state alone. -/
theorem SS.cut {x y : Code} {α : Type} (I : α → Prop) (tm : α → Tm) (hp : α → List PO) (M0 : List Nat)
    (h1 : SS P nt N0 x T M H fun e T' M' H' => match e with
      | .normal => At N0 tm hp M0 T' M' H' I
      | e => Q e T' M' H')
    (h2 : ∀ z, I z → SS P nt N0 y (tm z) M0 (hp z) Q) : SS P nt N0 (.seq x y) T M H Q :=
  ⟨fun B R w0 L0 L w a R0 g1 g2 g3 g4 g5 => wp_seq (h1.run B R w0 L0 L w a _ g1 g2 g3 g4 fun e L' T' M' H' w' a' k1 k2 k3 k4 k5 => by
    cases e with
    | normal =>
      obtain ⟨z, hI, i1, i2, i3, i4⟩ := At.use k5 k2 k3 k4
      exact (h2 z hI).run B R w0 L0 L' w' a' R0 i1 i2 i3 i4 g5
    | exit i => exact g5 (.exit i) L' T' M' H' w' a' k1 k2 k3 k4 k5
    | ret => exact g5 .ret L' T' M' H' w' a' k1 k2 k3 k4 k5)⟩

/-- Two ways, each gone to the end. -/
theorem SS.inl {x y : Code} (h : S P nt N0 x T M H fun e T' M' H' => match e with
      | .normal => S P nt N0 y T' M' H' Q
      | e => Q e T' M' H') : SS P nt N0 (.seq x y) T M H Q :=
  SS.seq ((S_ok _ _ _ _ _ h).mono fun e T' M' H' hq => by
    cases e with
    | normal => exact S_ok _ _ _ _ _ hq
    | exit i => exact hq
    | ret => exact hq)

/-- A result variable read. -/
def resF (tmps : Array Value) : ResultVar → Sem Value
  | .tmp t => pure (tmps.getD t undef)
  | .cell c t => do loadVar t (← asAddr (tmps.getD c undef))

theorem results_eq (fn : Func) (tmps : Array Value) : results fn tmps = (do let vs ← fn.results.mapM (resF tmps); pure (if h : vs.size = 1 then vs[0] else .tuple vs)) := by
  unfold results
  congr 1

theorem resK_sound (hrel : Rel B R w0 L H w) (ht : TR H.length L nt T a) : ∀ (rs : List ResultVar) (K : List AV → Prop), resK P T H rs K →
    ∃ (xs : List AV) (vs : List Value), (rs.mapM (resF a.tmps) : Sem (List Value)).run P w = .ok vs w ∧ VAs H.length L xs vs ∧ K xs
  | [], K, h => ⟨[], [], by simp, rfl, h⟩
  | .tmp t :: rs, K, h => by
    simp only [resK, fA_eq] at h
    obtain ⟨xs, vs, h1, h2, h3⟩ := resK_sound hrel ht rs _ h
    refine ⟨lk T t :: xs, a.tmps.getD t undef :: vs, ?_, ⟨_, _, rfl, ht.get t, h2⟩, h3⟩
    simp only [List.mapM_cons, Sem.run_bind, Sem.run_pure, Result.andThen_ok, h1, resF]
  | .cell c t :: rs, K, h => by
    obtain ⟨y, u, h1, h2, h3⟩ := load_sound (P := P) hrel (ht.get c) h
    obtain ⟨xs, vs, k1, k2, k3⟩ := resK_sound hrel ht rs _ h3
    refine ⟨.p y :: xs, u :: vs, ?_, ⟨_, _, rfl, h2, k2⟩, k3⟩
    have hsure : (resF a.tmps (.cell c t)).run P w = .ok u w := by
      have hp := ht.get c
      unfold resK loadA at h
      split at h <;> try exact h.elim
      all_goals
        rename_i hx
        rw [hx] at hp
        have hae : ∃ ad, a.tmps.getD c undef = .pointer (some ad) := by
          first | exact ⟨_, hp.2⟩ | exact ⟨_, hp⟩
        obtain ⟨_, hae⟩ := hae
        rw [hae] at h1
        simp only [resF]
        rw [hae]
        exact h1
    simp only [List.mapM_cons, Sem.run_bind, hsure, Sem.run_pure, Result.andThen_ok, k1]

theorem pvs_spec : ∀ {xs : List AV} {l : List PV} {vs : List Value}, pvs xs = some l → VAs N L xs vs → VPs N L l vs
  | [], l, vs, h, hv => by simp [pvs] at h; subst h; exact hv
  | x :: xs, l, vs, h, ⟨y, ys, h1, h2, h3⟩ => by
    cases x <;> simp only [pvs] at h <;> try cases h
    split at h <;> simp at h
    rename_i l' hl'
    subst h
    exact ⟨y, ys, h1, h2, pvs_spec hl' h3⟩

theorem startK_spec' : ∀ (xs : List AV) (m s : Nat) (k : Tm → Prop), startK xs (List.range' s m) k → ∃ T, k T ∧ ∀ i, lk T i = if s ≤ i then (xs[i - s]?).getD .u else .u
  | [], m, s, k, h => by
    cases m <;> exact ⟨[], h, fun i => by simp [lk]⟩
  | x :: xs, 0, s, k, h => h.elim
  | x :: xs, m + 1, s, k, h => by
    simp only [List.range'_succ, startK] at h
    obtain ⟨T, hk, hT⟩ := startK_spec' xs m (s + 1) _ h
    refine ⟨_, hk, fun i => ?_⟩
    rw [lk_cons]
    by_cases hi : s = i
    · subst hi; simp
    · rw [if_neg hi, hT i]
      by_cases hs : s ≤ i
      · rw [if_pos hs, if_pos (by omega), show i - s = (i - (s + 1)) + 1 by omega]
        simp
      · rw [if_neg hs, if_neg (by omega)]

theorem ltM_spec {n : Nat} : ∀ {M : List Nat} {i : Nat}, i ∈ M → i < n → i ∈ ltM n M
  | [], i, h, _ => by simp at h
  | m :: M, i, h, hi => by
    simp only [ltM, cond_eq_ite]
    rcases List.mem_cons.1 h with rfl | h
    · rw [if_pos (by simpa [Nat.blt_eq] using hi)]; simp
    · split
      · exact List.mem_cons_of_mem _ (ltM_spec h hi)
      · exact ltM_spec h hi

theorem endK_spec {K : AV → List Nat → List PO → Prop} {v : AV} {u : Value} (h : endK N0 v M H K) (hN : N0 ≤ H.length) {L0 : Nat → Loc} (hag : Agree N0 M L0 L) (hrel : Rel B R w0 L H w) (hv : VA H.length L v u) :
    Left B R w0 N0 L0 K u w := by
  obtain ⟨_, h⟩ := takeK_spec _ _ _ _ h
  simp only [List.drop_zero] at h
  have hag' : Agree N0 (ltM N0 M) L0 L := hag.sup fun i hi hlt => ltM_spec hi hlt
  have hlen : (H.take N0).length = N0 := by simp; omega
  split at h
  · rename_i h1 h2
    exact ⟨L, v, _, _, hag', by omega, by rw [hlen]; exact VA.low h1 hv, hrel.take h2 hN, h⟩
  · exact ⟨L, v, _, _, hag', hN, hv, hrel, h⟩

/-- A FUNCTION DOES WHAT ITS BODY DOES. -/
theorem does_of {f : FuncId} {fn : Func} {c : Code} {args : List AV} {K : AV → List Nat → List PO → Prop} (hf : P.funcs[f]? = some fn) (hc : fn.body = some c) (hn : fn.name ≠ "runtime.NumGoroutine")
    (h : FnB P fn c args H K) : Does P f args H K := by
  refine ⟨⟨fn, hf, hn, by simp [hc]⟩, fun B R w0 L w vs hrel hvs => ?_⟩
  have h := lenK_spec h
  rw [numbers_eq] at h
  obtain ⟨T, h, hT⟩ := startK_spec' args 100 0 _ h
  refine calls_of_wp hf hc ?_
  have hlen := hvs.length
  have hget : ∀ {xs : List AV} {us : List Value}, VAs H.length L xs us → ∀ i : Nat, VA H.length L ((xs[i]?).getD .u) ((us[i]?).getD undef) := by
    intro xs
    induction xs with
    | nil => intro us h i; simp [VAs] at h; subst h; simp; trivial
    | cons x xs ih =>
      rintro us ⟨y, ys, rfl, h2, h3⟩ i
      cases i with
      | zero => exact h2
      | succ i => simpa using ih h3 i
  have ht : TR H.length L fn.ntmps T { tmps := vs.toArray ++ Array.replicate (fn.ntmps - vs.toArray.size) undef, defers := [] } := by
    refine ⟨fun i => ?_, rfl, by simp; omega⟩
    rw [hT i, if_pos (Nat.zero_le _), Nat.sub_zero]
    by_cases hi : i < vs.length
    · have := hget hvs i
      simpa [Array.getD_eq_getD_getElem?, Array.getElem?_append, hi] using this
    · have : args[i]? = none := List.getElem?_eq_none (by omega)
      rw [this]
      trivial
  refine (S_ok _ _ _ _ _ h).run B R w0 L L w _ _ (Nat.le_refl _) (Agree.refl _ _ _) hrel ht ?_
  intro e L' T' M' H' w' a' h1 h2 h3 h4 h5
  have fin : (resK P T' H' fn.results.toList fun vs => tupA vs fun v => endK H.length v M' H' K) →
      a'.defers = [] ∧ ∃ v, (results fn a'.tmps).run P w' = .ok v w' ∧ ∃ u, Ending.returned v = .returned u ∧ Left B R w0 H.length L K u w' := by
    intro hres
    obtain ⟨xs, us, k1, k2, k3⟩ := resK_sound (P := P) h3 h4 fn.results.toList _ hres
    have hm : (results fn a'.tmps).run P w' = .ok (if h : us.toArray.size = 1 then us.toArray[0] else .tuple us.toArray) w' := by
      rw [results_eq]
      have hma : fn.results = fn.results.toList.toArray := by simp
      rw [hma]
      simp only [List.mapM_toArray, Sem.run_bind, Sem.run_map, k1, Result.andThen_ok, Sem.run_pure]
    refine ⟨h4.defers, _, hm, _, rfl, ?_⟩
    unfold tupA at k3
    split at k3
    · rename_i v
      obtain ⟨y, ys, rfl, hxy, hys⟩ := k2
      simp only [VAs] at hys
      subst hys
      exact endK_spec k3 h1 h2 h3 (by simpa using hxy)
    · rename_i hne
      split at k3 <;> try exact k3.elim
      rename_i l hl
      have hl2 := k2.length
      have : ¬ us.toArray.size = 1 := fun e => by
        have : xs.length = 1 := by simp at e; omega
        obtain ⟨x, hx⟩ := List.length_eq_one_iff.1 this
        exact hne x hx
      rw [dif_neg this]
      exact endK_spec k3 h1 h2 h3 ⟨us, rfl, pvs_spec hl k2⟩
  cases e with
  | normal => exact fin h5
  | ret => exact fin h5
  | exit i => exact h5.elim

theorem Does.mono {f : FuncId} {args : List AV} {K K' : AV → List Nat → List PO → Prop} (h : Does P f args H K) (hk : ∀ x M H', K x M H' → K' x M H') : Does P f args H K' :=
  ⟨h.fn, fun B R w0 L w vs hrel hvs => (h.run B R w0 L w vs hrel hvs).mono fun _ _ ⟨v, he, L', x, M', H', h1, h2, h3, h4, h5⟩ => ⟨v, he, L', x, M', H', h1, h2, h3, h4, hk _ _ _ h5⟩⟩

/-- A call in a world of one's own: it returns, and nothing that was there has changed. -/
theorem Does.top {f : FuncId} {args : List AV} {vs : List Value} {x : FC} {w : World} (h : Does P f args H fun v _ _ => v = fcv x) {L : Nat → Loc} {R : Nat → Prop} (hrel : Rel (· < w.heap.size) R w L H w) (hvs : VAs H.length L args vs) :
    Calls P f vs.toArray w fun e w' => e = .returned x.val ∧ Bel (· < w.heap.size) w w' := by
  refine (h.run (· < w.heap.size) R w L w vs hrel hvs).mono ?_
  rintro e w' ⟨v, rfl, L', y, M', H', h1, h2, h3, h4, rfl⟩
  obtain rfl := h3
  exact ⟨rfl, h4.below⟩

end
end Go.Mac
end

/- The machine of abstract values, part 7: THE FRAME: a call is looked at over its own part of the heap alone. -/
section
namespace Go.Mac
open Go

/-- Other numbers for the places of the heap. -/
def renC (g : Nat → Nat) : CV → CV
  | .ptr r f => .ptr (g r) f
  | .rptr r i f => .rptr (g r) i f
  | .iptr r i j f => .iptr (g r) i j f
  | .slc r o n c nn => .slc (g r) o n c nn
  | .islc r i o n c nn => .islc (g r) i o n c nn
  | .map r => .map (g r)
  | .func f cs => .func f (cs.map g)
  | .iface t x => .iface t (renC g x)
  | x => x

def renP (g : Nat → Nat) : PV → PV
  | .c x => .c (renC g x)
  | .agg cs => .agg (cs.map (renC g))

def renA (g : Nat → Nat) : AV → AV
  | .u => .u
  | .p x => .p (renP g x)
  | .tup xs => .tup (xs.map (renP g))

def renO (g : Nat → Nat) : PO → PO
  | .one cs => .one (cs.map (renC g))
  | .it d m since seen last => .it d (g m) since seen last
  | o => o

/-- The same, so that plain terms come out. -/
def renCK (g : Nat → Nat) (x : CV) (k : CV → Prop) : Prop :=
  match x with
  | .ptr r f => k (.ptr (g r) f)
  | .rptr r i f => k (.rptr (g r) i f)
  | .iptr r i j f => k (.iptr (g r) i j f)
  | .slc r o n c nn => k (.slc (g r) o n c nn)
  | .islc r i o n c nn => k (.islc (g r) i o n c nn)
  | .map r => k (.map (g r))
  | .func f cs => k (.func f (cs.map g))
  | .iface t x => k (.iface t (renC g x))
  | .junk => k .junk
  | .f x => k (.f x)
  | .nilptr => k .nilptr
  | .nilslc => k .nilslc
  | .dslc n => k (.dslc n)
  | .hslc r i l n => k (.hslc r i l n)
  | .hptr b => k (.hptr b)
  | .gpt a i => k (.gpt a i)
  | .nilmap => k .nilmap
  | .nilfunc => k .nilfunc
  | .niliface => k .niliface

theorem renCK_eq (g : Nat → Nat) (x : CV) (k : CV → Prop) : renCK g x k = k (renC g x) := by cases x <;> rfl

def mapCK (g : Nat → Nat) : List CV → (List CV → Prop) → Prop
  | [], k => k []
  | x :: xs, k => renCK g x fun y => mapCK g xs fun ys => k (y :: ys)

theorem mapCK_eq (g : Nat → Nat) : ∀ (xs : List CV) (k : List CV → Prop), mapCK g xs k = k (xs.map (renC g))
  | [], _ => rfl
  | x :: xs, k => by simp [mapCK, renCK_eq, mapCK_eq g xs]

def renPK (g : Nat → Nat) (x : PV) (k : PV → Prop) : Prop :=
  match x with
  | .c x => renCK g x fun y => k (.c y)
  | .agg cs => mapCK g cs fun ys => k (.agg ys)

theorem renPK_eq (g : Nat → Nat) (x : PV) (k : PV → Prop) : renPK g x k = k (renP g x) := by cases x <;> simp [renPK, renP, renCK_eq, mapCK_eq]

def mapPK (g : Nat → Nat) : List PV → (List PV → Prop) → Prop
  | [], k => k []
  | x :: xs, k => renPK g x fun y => mapPK g xs fun ys => k (y :: ys)

theorem mapPK_eq (g : Nat → Nat) : ∀ (xs : List PV) (k : List PV → Prop), mapPK g xs k = k (xs.map (renP g))
  | [], _ => rfl
  | x :: xs, k => by simp [mapPK, renPK_eq, mapPK_eq g xs]

def renAK (g : Nat → Nat) (x : AV) (k : AV → Prop) : Prop :=
  match x with
  | .u => k .u
  | .p x => renPK g x fun y => k (.p y)
  | .tup xs => mapPK g xs fun ys => k (.tup ys)

theorem renAK_eq (g : Nat → Nat) (x : AV) (k : AV → Prop) : renAK g x k = k (renA g x) := by cases x <;> simp [renAK, renA, renPK_eq, mapPK_eq]

def renOK (g : Nat → Nat) (x : PO) (k : PO → Prop) : Prop :=
  match x with
  | .one cs => mapCK g cs fun ys => k (.one ys)
  | .rows a b c => k (.rows a b c)
  | .rows2 a b c => k (.rows2 a b c)
  | .rows2m a b => k (.rows2m a b)
  | .hnd a b c d => k (.hnd a b c d)
  | .tab a b => k (.tab a b)
  | .errv a => k (.errv a)
  | .bld a b c d => k (.bld a b c d)
  | .mp a b c d => k (.mp a b c d)
  | .it d m since seen last => k (.it d (g m) since seen last)
  | .rows3 p a b => k (.rows3 p a b)
  | .gone => k .gone

theorem renOK_eq (g : Nat → Nat) (x : PO) (k : PO → Prop) : renOK g x k = k (renO g x) := by cases x <;> simp [renOK, renO, mapCK_eq]

/-- Where the places of a small heap lie in the great one: the named ones, and then new ones. -/
def gmap (ids : List Nat) (m : Nat) (i : Nat) : Nat :=
  match nth ids i with
  | some j => j
  | none => m + (i - ids.length)

def setAll (g : Nat → Nat) : List PO → List Nat → List PO → List PO
  | H, i :: is, o :: os => setAll g (H.set i (renO g o)) is os
  | H, _, os => H ++ os.map (renO g)

def catK : List PO → List PO → (List PO → Prop) → Prop
  | [], os, k => k os
  | x :: xs, os, k => catK xs os fun l => k (x :: l)

theorem catK_eq : ∀ (H os : List PO) (k : List PO → Prop), catK H os k = k (H ++ os)
  | [], _, _ => rfl
  | x :: xs, os, k => by simp [catK, catK_eq xs]

def mapOK (g : Nat → Nat) : List PO → (List PO → Prop) → Prop
  | [], k => k []
  | o :: os, k => renOK g o fun o' => mapOK g os fun l => k (o' :: l)

theorem mapOK_eq (g : Nat → Nat) : ∀ (os : List PO) (k : List PO → Prop), mapOK g os k = k (os.map (renO g))
  | [], _ => rfl
  | o :: os, k => by simp [mapOK, renOK_eq, mapOK_eq g os]

def appK (g : Nat → Nat) (H os : List PO) (k : List PO → Prop) : Prop := mapOK g os fun os' => catK H os' k

theorem appK_eq (g : Nat → Nat) (H os : List PO) (k : List PO → Prop) : appK g H os k = k (H ++ os.map (renO g)) := by simp [appK, mapOK_eq, catK_eq]

def setAllK (g : Nat → Nat) : List PO → List Nat → List PO → (List PO → Prop) → Prop
  | H, i :: is, o :: os, k => renOK g o fun o' => setK H i o' fun H1 => setAllK g H1 is os k
  | H, [], os, k => appK g H os k
  | H, _ :: _, [], k => appK g H [] k

theorem setAllK_eq (g : Nat → Nat) : ∀ (ids : List Nat) (H os : List PO) (k : List PO → Prop), setAllK g H ids os k = k (setAll g H ids os)
  | i :: is, H, o :: os, k => by simp [setAllK, setAll, renOK_eq, setK_eq, setAllK_eq g is]
  | [], H, os, k => by cases os <;> simp [setAllK, setAll, appK_eq]
  | _ :: _, H, [], k => by simp [setAllK, setAll, appK_eq]

section
variable {N n : Nat} {L : Nat → Loc} {g : Nat → Nat}

theorem VC.ren (hg : ∀ i, i < n → g i < N) : ∀ {x : CV} {v : Value}, lowC n x = true → (VC N L (renC g x) v ↔ VC n (fun i => L (g i)) x v)
  | .junk, _, _ | .f _, _, _ | .nilptr, _, _ | .nilslc, _, _ | .dslc _, _, _ | .hslc _ _ _ _, _, _ | .hptr _, _, _ | .gpt _ _, _, _ | .nilmap, _, _ | .nilfunc, _, _ | .niliface, _, _ => by simp [renC, VC]
  | .ptr r _, _, h | .rptr r _ _, _, h | .iptr r _ _ _, _, h | .slc r _ _ _ _, _, h | .islc r _ _ _ _ _, _, h | .map r, _, h => by
    have := blt_lt (by simpa only [lowC] using h)
    simp only [renC, VC, hg r this, this, true_and]
  | .func f cs, _, h => by
    simp only [lowC] at h
    have := lows_spec h
    have h1 : (∀ r ∈ cs.map g, r < N) := fun r hr => by
      obtain ⟨r0, h0, rfl⟩ := List.mem_map.1 hr
      exact hg _ (this _ h0)
    simp only [renC, VC, List.map_map]
    exact ⟨fun hh => ⟨this, hh.2⟩, fun hh => ⟨h1, hh.2⟩⟩
  | .iface t x, _, h => by
    simp only [lowC] at h
    simp only [renC, VC]
    constructor
    · rintro ⟨y, h1, h2⟩; exact ⟨y, h1, (VC.ren hg h).1 h2⟩
    · rintro ⟨y, h1, h2⟩; exact ⟨y, h1, (VC.ren hg h).2 h2⟩

theorem VC.bound : ∀ {x : CV} {v : Value}, VC n L x v → lowC n x = true
  | .junk, _, _ | .f _, _, _ | .nilptr, _, _ | .nilslc, _, _ | .dslc _, _, _ | .hslc _ _ _ _, _, _ | .hptr _, _, _ | .gpt _ _, _, _ | .nilmap, _, _ | .nilfunc, _, _ | .niliface, _, _ => rfl
  | .ptr r _, _, h | .rptr r _ _, _, h | .iptr r _ _ _, _, h | .slc r _ _ _ _, _, h | .islc r _ _ _ _ _, _, h | .map r, _, h => by
    simp only [VC] at h
    simp [lowC, h.1]
  | .func f cs, _, h => by
    simp only [VC] at h
    have : ∀ cs : List Nat, (∀ r ∈ cs, r < n) → lowC.lows n cs = true := by
      intro cs
      induction cs with
      | nil => intro _; rfl
      | cons c cs ih => intro hc; simp [lowC.lows, hc c (by simp), ih fun r hr => hc r (by simp [hr])]
    simp [lowC, this cs h.1]
  | .iface t x, _, h => by
    simp only [VC] at h
    obtain ⟨y, _, h⟩ := h
    simp [lowC, h.bound]

theorem VCs.ren (hg : ∀ i, i < n → g i < N) : ∀ {xs : List CV} {vs : List Value}, VCs n (fun i => L (g i)) xs vs → VCs N L (xs.map (renC g)) vs
  | [], _, h => h
  | _ :: _, _, ⟨y, ys, h1, h2, h3⟩ => ⟨y, ys, h1, (VC.ren hg h2.bound).2 h2, VCs.ren hg h3⟩

theorem VP.ren (hg : ∀ i, i < n → g i < N) : ∀ {x : PV} {v : Value}, VP n (fun i => L (g i)) x v → VP N L (renP g x) v
  | .c _, _, h => (VC.ren hg (VC.bound h)).2 h
  | .agg _, _, ⟨vs, h1, h2⟩ => ⟨vs, h1, h2.ren hg⟩

theorem VPs.ren (hg : ∀ i, i < n → g i < N) : ∀ {xs : List PV} {vs : List Value}, VPs n (fun i => L (g i)) xs vs → VPs N L (xs.map (renP g)) vs
  | [], _, h => h
  | _ :: _, _, ⟨y, ys, h1, h2, h3⟩ => ⟨y, ys, h1, h2.ren hg, VPs.ren hg h3⟩

theorem VA.ren (hg : ∀ i, i < n → g i < N) : ∀ {x : AV} {v : Value}, VA n (fun i => L (g i)) x v → VA N L (renA g x) v
  | .u, _, _ => trivial
  | .p _, _, h => VP.ren hg h
  | .tup _, _, ⟨vs, h1, h2⟩ => ⟨vs, h1, h2.ren hg⟩

theorem VCs.unren (hg : ∀ i, i < n → g i < N) : ∀ {xs : List CV} {vs : List Value}, lowCs n xs = true → VCs N L (xs.map (renC g)) vs → VCs n (fun i => L (g i)) xs vs
  | [], _, _, h => h
  | x :: xs, _, hl, ⟨y, ys, h1, h2, h3⟩ => by
    simp only [lowCs, cond_eq_ite] at hl
    split at hl
    · rename_i hx; exact ⟨y, ys, h1, (VC.ren hg hx).1 h2, VCs.unren hg hl h3⟩
    · cases hl

theorem VA.unren (hg : ∀ i, i < n → g i < N) : ∀ {x : AV} {v : Value}, lowA n x = true → VA N L (renA g x) v → VA n (fun i => L (g i)) x v
  | .u, _, _, _ => trivial
  | .p (.c _), _, hl, h => (VC.ren hg hl).1 h
  | .p (.agg _), _, hl, ⟨vs, h1, h2⟩ => ⟨vs, h1, h2.unren hg hl⟩
  | .tup xs, _, hl, ⟨vs, h1, h2⟩ => by
    refine ⟨vs, h1, ?_⟩
    clear h1
    replace hl : lowPs n xs = true := hl
    induction xs generalizing vs with
    | nil => exact h2
    | cons x xs ih =>
      obtain ⟨y, ys, h3, h4, h5⟩ := h2
      simp only [lowPs, cond_eq_ite] at hl
      split at hl
      · rename_i hx
        refine ⟨y, ys, h3, ?_, ih _ h5 hl⟩
        cases x with
        | c x => exact (VC.ren hg hx).1 h4
        | agg cs => obtain ⟨us, h6, h7⟩ := h4; exact ⟨us, h6, h7.unren hg hx⟩
      · cases hl

theorem lowCs_get : ∀ {cs : List CV} {f : Nat} {x : CV}, lowCs n cs = true → cs[f]? = some x → lowC n x = true
  | [], f, x, _, hf => by simp at hf
  | c :: cs, f, x, hc, hf => by
    simp only [lowCs, cond_eq_ite] at hc
    split at hc
    · rename_i hc0
      cases f with
      | zero => simp at hf; subst hf; exact hc0
      | succ f => exact lowCs_get hc (by simpa using hf)
    · cases hc

theorem OR.ren (hg : ∀ i, i < n → g i < N) {w : World} {o : PO} {l : Loc} (h : OR n (fun i => L (g i)) w o l) : OR N L w (renO g o) l := by
  cases o with
  | one cs =>
    obtain ⟨h1, h2, h3, h4, h5⟩ := h
    refine ⟨h1, by simpa using h2, by simpa using h3, by simpa using h4, fun f x hx => ?_⟩
    rw [List.getElem?_map, Option.map_eq_some_iff] at hx
    obtain ⟨x0, hx0, rfl⟩ := hx
    obtain ⟨v, hv, hvr⟩ := h5 f x0 hx0
    exact ⟨v, hv, (VC.ren hg hvr.bound).2 hvr⟩
  | rows _ _ _ => exact h
  | rows2 _ _ _ => exact h
  | rows2m _ _ => exact h
  | hnd _ _ _ _ => exact h
  | tab _ _ => exact h
  | errv _ => exact h
  | bld _ _ _ _ => exact h
  | mp _ _ _ _ => exact h
  | it d m since seen last =>
    obtain ⟨h0, h1, h2⟩ := h
    exact ⟨h0, h1, fun hd => ⟨hg m (h2 hd).1, (h2 hd).2⟩⟩
  | rows3 _ _ _ => exact h
  | gone => exact h

theorem OR.unren (hg : ∀ i, i < n → g i < N) {w : World} {o : PO} {l : Loc} (hl : lowO n o = true) (h : OR N L w (renO g o) l) : OR n (fun i => L (g i)) w o l := by
  cases o with
  | one cs =>
    obtain ⟨h1, h2, h3, h4, h5⟩ := h
    refine ⟨h1, by simpa using h2, by simpa using h3, by simpa using h4, fun f x hx => ?_⟩
    obtain ⟨v, hv, hvr⟩ := h5 f (renC g x) (by rw [List.getElem?_map, hx]; rfl)
    exact ⟨v, hv, (VC.ren hg (lowCs_get hl hx)).1 hvr⟩
  | rows _ _ _ => exact h
  | rows2 _ _ _ => exact h
  | rows2m _ _ => exact h
  | hnd _ _ _ _ => exact h
  | tab _ _ => exact h
  | errv _ => exact h
  | bld _ _ _ _ => exact h
  | mp _ _ _ _ => exact h
  | it d m since seen last =>
    obtain ⟨h0, h1, h2⟩ := h
    refine ⟨h0, h1, fun hd => ⟨?_, (h2 hd).2⟩⟩
    subst hd
    simpa [lowO, Nat.blt_eq] using hl
  | rows3 _ _ _ => exact h
  | gone => exact h

theorem Own_ren {o : PO} {l : Loc} {b : Nat} : Own (renO g o) l b ↔ Own o l b := by cases o <;> exact Iff.rfl
theorem Ro_ren {o : PO} {l : Loc} {b : Nat} : Ro (renO g o) l b ↔ Ro o l b := by cases o <;> exact Iff.rfl
end

theorem gmap_some {ids : List Nat} {m i j : Nat} (h : ids[i]? = some j) : gmap ids m i = j := by simp [gmap, nth_eq, h]
theorem gmap_ge {ids : List Nat} {m i : Nat} (h : ids.length ≤ i) : gmap ids m i = m + (i - ids.length) := by simp [gmap, nth_eq, h]

theorem nodup_inj : ∀ {ids : List Nat} (_ : ids.Nodup) {a b j : Nat}, ids[a]? = some j → ids[b]? = some j → a = b
  | [], _, a, b, j, h, _ => by simp at h
  | i :: is, hnd, 0, 0, j, _, _ => rfl
  | i :: is, hnd, 0, b + 1, j, h, h' => by
    simp at h h'; subst h
    exact absurd (List.mem_of_getElem? h') (List.nodup_cons.1 hnd).1
  | i :: is, hnd, a + 1, 0, j, h, h' => by
    simp at h h'; subst h'
    exact absurd (List.mem_of_getElem? h) (List.nodup_cons.1 hnd).1
  | i :: is, hnd, a + 1, b + 1, j, h, h' => by
    simp at h h'
    rw [nodup_inj (List.nodup_cons.1 hnd).2 h h']

theorem gmap_inj {ids : List Nat} {m : Nat} (hnd : ids.Nodup) (hlt : ∀ i ∈ ids, i < m) {a b : Nat} (h : gmap ids m a = gmap ids m b) : a = b := by
  rcases Nat.lt_or_ge a ids.length with ha | ha <;> rcases Nat.lt_or_ge b ids.length with hb | hb
  · have h1 : ids[a]? = some ids[a] := by simp [ha]
    have h2 : ids[b]? = some ids[b] := by simp [hb]
    rw [gmap_some h1, gmap_some h2] at h
    exact nodup_inj hnd h1 (by rw [h2, h])
  · have h1 : ids[a]? = some ids[a] := by simp [ha]
    rw [gmap_some h1, gmap_ge hb] at h
    have := hlt _ (List.getElem_mem ha)
    omega
  · have h2 : ids[b]? = some ids[b] := by simp [hb]
    rw [gmap_some h2, gmap_ge ha] at h
    have := hlt _ (List.getElem_mem hb)
    omega
  · rw [gmap_ge ha, gmap_ge hb] at h; omega

theorem setAll_get (g : Nat → Nat) : ∀ (ids : List Nat) (os H : List PO), ids.length ≤ os.length → ids.Nodup → (∀ i ∈ ids, i < H.length) →
    (setAll g H ids os).length = H.length + (os.length - ids.length) ∧
    (∀ k j : Nat, ids[k]? = some j → (setAll g H ids os)[j]? = (os[k]?).map (renO g)) ∧ (∀ j : Nat, j ∉ ids → j < H.length → (setAll g H ids os)[j]? = H[j]?) ∧
    ∀ k, ids.length ≤ k → (setAll g H ids os)[H.length + (k - ids.length)]? = (os[k]?).map (renO g)
  | [], os, H, _, _, _ => by
    have : setAll g H [] os = H ++ os.map (renO g) := by cases os <;> rfl
    rw [this]
    refine ⟨by simp, fun k j hk => by simp at hk, fun j _ hj => List.getElem?_append_left hj, fun k _ => ?_⟩
    rw [List.getElem?_append_right (by simp)]
    simp
  | i :: is, [], H, hl, _, _ => by simp at hl
  | i :: is, o :: os, H, hl, hnd, hlt => by
    simp only [List.nodup_cons] at hnd
    obtain ⟨h1, h2, h3, h4⟩ := setAll_get g is os (H.set i (renO g o)) (by simpa using hl) hnd.2 (fun k hk => by simpa using hlt k (by simp [hk]))
    simp only [List.length_set] at h1 h3 h4
    simp only [setAll]
    refine ⟨by rw [h1]; simp, fun k j hk => ?_, fun j hj hjl => ?_, fun k hk => ?_⟩
    · cases k with
      | zero =>
        simp at hk; subst hk
        rw [h3 i hnd.1 (hlt i (by simp)), List.getElem?_set_self (hlt i (by simp))]
        rfl
      | succ k => simp at hk ⊢; exact h2 k j hk
    · simp only [List.mem_cons, not_or] at hj
      rw [h3 j hj.2 hjl, List.getElem?_set_ne (Ne.symm hj.1)]
    · cases k with
      | zero => simp at hk
      | succ k => simpa using h4 k (by simpa using hk)

section
variable {B R : Nat → Prop} {w0 : World} {L : Nat → Loc} {H : List PO} {w : World} {P : Program}

/-- THE FRAME. -/
theorem Rel.frame (h : Rel B R w0 L H w) (ids : List Nat) (hnd : ids.Nodup) (hlt : ∀ i ∈ ids, i < H.length) (Hl : List PO) (hl : Hl.length = ids.length) (hlo : lowH ids.length Hl = true)
    (hH : ∀ (k j : Nat) (o : PO), ids[k]? = some j → Hl[k]? = some o → H[j]? = some (renO (gmap ids H.length) o)) :
    ∃ B' : Nat → Prop, Rel B' R w (fun i => L (gmap ids H.length i)) Hl w ∧
      ∀ (M : List Nat) (Ll : Nat → Loc) (Hl' : List PO) (w' : World), Agree ids.length M (fun i => L (gmap ids H.length i)) Ll → Rel B' R w Ll Hl' w' → ids.length ≤ Hl'.length →
        ∃ L', Agree H.length (M.map (gmap ids H.length)) L L' ∧ (∀ i, Ll i = L' (gmap ids H.length i)) ∧ Rel B R w0 L' (setAll (gmap ids H.length) (H.map (killO (M.map (gmap ids H.length)))) ids Hl') w' := by
  have hgl : ∀ i, i < ids.length → ∃ j, ids[i]? = some j ∧ gmap ids H.length i = j ∧ j < H.length := fun i hi => by
    have h1 : ids[i]? = some ids[i] := by simp [hi]
    exact ⟨_, h1, gmap_some h1, hlt _ (List.getElem_mem hi)⟩
  have hinj : ∀ {a b : Nat}, gmap ids H.length a = gmap ids H.length b → a = b := fun e => gmap_inj hnd hlt e
  refine ⟨fun k => k < w.heap.size ∧ ∀ i ∈ ids, ∀ o, H[i]? = some o → ¬ Own o (L i) k, ?_, ?_⟩
  · refine ⟨Bel.refl _ _, fun k hk => hk.1, fun i o ho => ?_, fun i o b ho hb => ?_, fun i o b ho hb => ?_, fun b hb => ⟨h.size b (h.sub b hb), fun i _ o ho hown => (h.own i o b ho hown).1 (h.sub b hb)⟩⟩
    all_goals
      have hi : i < ids.length := by rw [← hl]; exact (List.getElem?_eq_some_iff.1 ho).1
      obtain ⟨j, hj, hgj, hjl⟩ := hgl i hi
      have hoj := hH i j o hj ho
    · have := h.obj j _ hoj
      rw [hl]
      simp only [hgj]
      exact OR.unren (fun k hk => by obtain ⟨_, _, e, hh⟩ := hgl k hk; omega) (lowH_spec hlo o (List.mem_of_getElem? ho)) this
    · simp only [hgj] at hb
      obtain ⟨h1, h2, h3⟩ := h.own j _ b hoj (Own_ren.2 hb)
      refine ⟨fun hB => hB.2 j (List.mem_of_getElem? hj) _ hoj (Own_ren.2 hb), h2, fun k o' ho' hb' => ?_⟩
      have hk : k < ids.length := by rw [← hl]; exact (List.getElem?_eq_some_iff.1 ho').1
      obtain ⟨j', hj', hgj', _⟩ := hgl k hk
      simp only [hgj'] at hb'
      have := h3 j' _ (hH k j' o' hj' ho') (Own_ren.2 hb')
      subst this
      exact nodup_inj hnd hj' hj
    · simp only [hgj] at hb
      exact h.ro j _ b hoj (Ro_ren.2 hb)
  · intro M Ll Hl' w' hag hrel hlen
    obtain ⟨s1, s2, s3, s4⟩ := setAll_get (gmap ids H.length) ids Hl' (H.map (killO (M.map (gmap ids H.length)))) hlen hnd (by simpa using hlt)
    simp only [List.length_map] at s1 s3 s4
    -- the place in the part of a place in the whole
    obtain ⟨u, hu1, hu2⟩ : ∃ u : Nat → Option Nat, (∀ i, u (gmap ids H.length i) = some i) ∧ ∀ j i, u j = some i → gmap ids H.length i = j := by
      classical
      refine ⟨fun j => if h : ∃ i, gmap ids H.length i = j then some (Classical.choose h) else none, fun i => ?_, fun j i hji => ?_⟩
      · have hex : ∃ k, gmap ids H.length k = gmap ids H.length i := ⟨i, rfl⟩
        simp only [dif_pos hex]
        exact congrArg some (hinj (Classical.choose_spec hex))
      · by_cases hex : ∃ k, gmap ids H.length k = j
        · simp only [dif_pos hex, Option.some.injEq] at hji
          rw [← hji]; exact Classical.choose_spec hex
        · simp only [dif_neg hex] at hji; cases hji
    let L' : Nat → Loc := fun j => match u j with | some i => Ll i | none => L j
    have hL'g : ∀ i, L' (gmap ids H.length i) = Ll i := fun i => by simp only [L', hu1]
    have hL'n : ∀ j, u j = none → L' j = L j := fun j hj => by simp only [L', hj]
    have hLL : (fun i => L' (gmap ids H.length i)) = Ll := funext hL'g
    have hnone : ∀ j, u j = none → j ∉ ids ∧ j < H.length := by
      intro j hj
      refine ⟨fun hm => ?_, ?_⟩
      · obtain ⟨k, hk⟩ := List.mem_iff_getElem?.1 hm
        have := hu1 k
        rw [gmap_some hk, hj] at this
        cases this
      · rcases Nat.lt_or_ge j H.length with h | h
        · exact h
        · have := hu1 (ids.length + (j - H.length))
          rw [gmap_ge (by omega), show H.length + (ids.length + (j - H.length) - ids.length) = j by omega, hj] at this
          cases this
    have hget : ∀ i, (setAll (gmap ids H.length) (H.map (killO (M.map (gmap ids H.length)))) ids Hl')[gmap ids H.length i]? = (Hl'[i]?).map (renO (gmap ids H.length)) := by
      intro i
      rcases Nat.lt_or_ge i ids.length with hi | hi
      · obtain ⟨j, hj, hgj, _⟩ := hgl i hi
        rw [hgj]; exact s2 i j hj
      · rw [gmap_ge hi]; exact s4 i hi
    have hgo : ∀ j, u j = none → (setAll (gmap ids H.length) (H.map (killO (M.map (gmap ids H.length)))) ids Hl')[j]? = (H[j]?).map (killO (M.map (gmap ids H.length))) := fun j hj => by
      rw [s3 j (hnone j hj).1 (hnone j hj).2, List.getElem?_map]
    have hag' : Agree H.length (M.map (gmap ids H.length)) L L' := by
      intro j hj hm
      cases hu : u j with
      | none => exact hL'n j hu
      | some i =>
        have := hu2 j i hu
        subst this
        rw [hL'g]
        have hi : i < ids.length := by
          rcases Nat.lt_or_ge i ids.length with hi | hi
          · exact hi
          · rw [gmap_ge hi] at hj; omega
        exact hag i hi fun hiM => hm (List.mem_map.2 ⟨i, hiM, rfl⟩)
    refine ⟨L', hag', fun i => (hL'g i).symm, ?_⟩
    have hgN : ∀ i, i < Hl'.length → gmap ids H.length i < (setAll (gmap ids H.length) (H.map (killO (M.map (gmap ids H.length)))) ids Hl').length := by
      intro i hi
      have := hget i
      rw [show Hl'[i]? = some Hl'[i] by simp [hi]] at this
      exact (List.getElem?_eq_some_iff.1 this).1
    -- blocks of the others are as they were
    have hold : ∀ j o b, u j = none → H[j]? = some o → Own o (L j) b → b < w.heap.size ∧ ∀ i ∈ ids, ∀ o, H[i]? = some o → ¬ Own o (L i) b := by
      intro j o b hj ho hb
      obtain ⟨_, h2, h3⟩ := h.own j o b ho hb
      refine ⟨h2, fun i hi o' ho' hb' => ?_⟩
      have := h3 i o' ho' hb'
      subst this
      exact (hnone i hj).1 hi
    have hBB : ∀ k, B k → k < w.heap.size ∧ ∀ i ∈ ids, ∀ o, H[i]? = some o → ¬ Own o (L i) k := fun k hk =>
      ⟨h.size _ hk, fun i _ o ho hown => (h.own i o k ho hown).1 hk⟩
    refine ⟨h.below.trans ⟨hrel.below.os, hrel.below.tape, hrel.below.output, hrel.below.size, fun k hk => hrel.below.block k (hBB k hk)⟩, h.start, ?_, ?_, ?_, h.sub⟩
    · intro j o ho
      cases hj : u j with
      | some i =>
        have := hu2 j i hj
        subst this
        rw [hget, Option.map_eq_some_iff] at ho
        obtain ⟨o0, ho0, rfl⟩ := ho
        have := hrel.obj i o0 ho0
        rw [← hL'g i, ← hLL] at this
        exact OR.ren (L := L') (fun k hk => hgN k hk) this
      | none =>
        rw [hgo j hj, Option.map_eq_some_iff] at ho
        obtain ⟨o, ho, rfl⟩ := ho
        rw [hL'n j hj]
        exact (h.obj j o ho).mono (M := M.map (gmap ids H.length)) (N' := (setAll (gmap ids H.length) (H.map (killO (M.map (gmap ids H.length)))) ids Hl').length) (L' := L') (w' := w') (by rw [s1]; omega) hag' fun b hb => by
          rcases hb with hb | hb
          · exact hrel.below.block b (hold j o b hj ho hb)
          · exact hrel.below.block b (hBB b (h.sub b (h.ro j o b ho hb)))
    · intro j o b ho hb
      cases hj : u j with
      | some i =>
        have := hu2 j i hj
        subst this
        rw [hget, Option.map_eq_some_iff] at ho
        obtain ⟨o0, ho0, rfl⟩ := ho
        rw [hL'g, Own_ren] at hb
        obtain ⟨h1, h2, h3⟩ := hrel.own i o0 b ho0 hb
        refine ⟨fun hB => h1 (hBB b hB), h2, fun k o' ho' hb' => ?_⟩
        cases hk : u k with
        | some i' =>
          have := hu2 k i' hk
          subst this
          rw [hget, Option.map_eq_some_iff] at ho'
          obtain ⟨o1, ho1, rfl⟩ := ho'
          rw [hL'g, Own_ren] at hb'
          rw [h3 i' o1 ho1 hb']
        | none =>
          rw [hgo k hk, Option.map_eq_some_iff] at ho'
          obtain ⟨o', ho', rfl⟩ := ho'
          rw [hL'n k hk, Own_kill] at hb'
          exact absurd (hold k o' b hk ho' hb') h1
      | none =>
        rw [hgo j hj, Option.map_eq_some_iff] at ho
        obtain ⟨o, ho, rfl⟩ := ho
        rw [hL'n j hj, Own_kill] at hb
        obtain ⟨h1, h2, h3⟩ := h.own j o b ho hb
        have hsz := hrel.below.size
        refine ⟨h1, by omega, fun k o' ho' hb' => ?_⟩
        cases hk : u k with
        | some i' =>
          have := hu2 k i' hk
          subst this
          rw [hget, Option.map_eq_some_iff] at ho'
          obtain ⟨o1, ho1, rfl⟩ := ho'
          rw [hL'g, Own_ren] at hb'
          exact absurd (hold j o b hj ho hb) (hrel.own i' o1 b ho1 hb').1
        | none =>
          rw [hgo k hk, Option.map_eq_some_iff] at ho'
          obtain ⟨o', ho', rfl⟩ := ho'
          rw [hL'n k hk, Own_kill] at hb'
          exact h3 k o' ho' hb'
    · intro j o b ho hb
      cases hj : u j with
      | some i =>
        have := hu2 j i hj
        subst this
        rw [hget, Option.map_eq_some_iff] at ho
        obtain ⟨o0, ho0, rfl⟩ := ho
        rw [hL'g, Ro_ren] at hb
        exact hrel.ro i o0 b ho0 hb
      | none =>
        rw [hgo j hj, Option.map_eq_some_iff] at ho
        obtain ⟨o, ho, rfl⟩ := ho
        rw [hL'n j hj, Ro_kill] at hb
        exact h.ro j o b ho hb

def mapM (g : Nat → Nat) (M : List Nat) (k : List Nat → Prop) : Prop :=
  match M with
  | [] => k []
  | M => k (M.map g)

theorem mapM_eq (g : Nat → Nat) (M : List Nat) (k : List Nat → Prop) : mapM g M k = k (M.map g) := by cases M <;> rfl

def lowAs (n : Nat) : List AV → Bool
  | [] => true
  | x :: xs => bif lowA n x then lowAs n xs else false

/-- A CALL OVER A PART OF THE HEAP: the objects ids, as Hl, and arguments to match; and what it leaves, laid back. -/
theorem Does.frame {f : FuncId} {args : List AV} {K : AV → List Nat → List PO → Prop} (m : Nat) (ids : List Nat) (Hl : List PO) (argsl : List AV)
    (h : Does P f argsl Hl fun x M Hl' => mapM (gmap ids m) M fun Mg => killHK Mg H fun H0 => setAllK (gmap ids m) H0 ids Hl' fun H' => renAK (gmap ids m) x fun y => K y Mg H')
    (hm : H.length = m) (hn : ids.Nodup) (hlt : ∀ i ∈ ids, i < m) (hl : Hl.length = ids.length) (hlo : lowH ids.length Hl = true) (hla : lowAs ids.length argsl = true)
    (hH : (ids.map fun i => H[i]?) = Hl.map fun o => some (renO (gmap ids m) o)) (ha : args = argsl.map (renA (gmap ids m))) : Does P f args H K := by
  subst hm
  refine ⟨h.fn, fun B R w0 L w vs hrel hvs => ?_⟩
  obtain ⟨B', hrel', hback⟩ := hrel.frame ids hn hlt Hl hl hlo fun k j o hk ho => by
    have := congrArg (·[k]?) hH
    simp only [List.getElem?_map, hk, ho, Option.map_some, Option.some.injEq] at this
    exact this
  have hgN : ∀ i, i < ids.length → gmap ids H.length i < H.length := fun i hi => by
    rw [gmap_some (j := ids[i]) (by simp [hi])]
    exact hlt _ (List.getElem_mem hi)
  have hvsl : VAs Hl.length (fun i => L (gmap ids H.length i)) argsl vs := by
    subst ha
    rw [hl]
    clear h hH
    induction argsl generalizing vs with
    | nil => exact hvs
    | cons x xs ih =>
      obtain ⟨y, ys, h1, h2, h3⟩ := hvs
      simp only [lowAs, cond_eq_ite] at hla
      split at hla
      · rename_i hx
        exact ⟨y, ys, h1, VA.unren hgN hx h2, ih hla _ h3⟩
      · cases hla
  refine (h.run B' R w _ w vs hrel' hvsl).mono ?_
  rintro e w' ⟨v, rfl, Ll, x, M, Hl', h1, h2, h3, h4, h5⟩
  rw [hl] at h1 h2
  obtain ⟨L', k1, k2, k3⟩ := hback M Ll Hl' w' h1 h4 h2
  simp only [mapM_eq, killHK_eq, setAllK_eq, renAK_eq] at h5
  obtain ⟨s1, s2, s3, s4⟩ := setAll_get (gmap ids H.length) ids Hl' (H.map (killO (M.map (gmap ids H.length)))) h2 hn (by simpa using hlt)
  simp only [List.length_map] at s1
  refine ⟨v, rfl, L', _, _, _, k1, by rw [s1]; omega, ?_, k3, h5⟩
  have hLl : Ll = fun i => L' (gmap ids H.length i) := funext k2
  rw [hLl] at h3
  refine VA.ren (fun i hi => ?_) h3
  rw [s1]
  rcases Nat.lt_or_ge i ids.length with hi' | hi'
  · have := hgN i hi'; omega
  · rw [gmap_ge hi']; omega

end
end Go.Mac
end

/- The machine of abstract values, part 8: a region whose order is open: what only looks is looked at as soon as it can be, and again behind each change. -/
section
namespace Go.Mac
open Go

def predsL : List Edge → List Nat
  | [] => []
  | e :: es =>
    match e.ground with
    | .textOnly _ => predsL es
    | .gcOnly _ => predsL es
    | _ => e.on :: predsL es

def preds (o : Oper) : List Nat := predsL o.after.toList

theorem mem_preds {o : Oper} {j : Nat} : j ∈ preds o ↔ ∃ e ∈ o.after, Region.binds .any e = true ∧ e.on = j := by
  have : ∀ es : List Edge, j ∈ predsL es ↔ ∃ e ∈ es, Region.binds .any e = true ∧ e.on = j := by
    intro es
    induction es with
    | nil => simp [predsL]
    | cons e es ih =>
      obtain ⟨on, g⟩ := e
      have e1 : (j = on) ↔ (on = j) := eq_comm
      cases g <;> simp [predsL, Region.binds, ih, e1]
  simpa [preds] using this o.after.toList

def quiet : Op → Bool
  | .move _ | .pick _ _ _ | .build _ _ | .load _ _ | .nilCheck _ | .binOp _ _ _ _ _ | .unOp _ _ _ | .convert _ _ _ | .makeInterface _ _ | .fieldAddr _ _ _ | .field _ _ _ | .extract _ _
  | .indexAddr _ _ _ | .index _ _ _ | .slice _ _ _ _ _ | .lookup _ _ _ _ => true
  | .call c => match c.callee with
    | .builtin .len => true
    | _ => false
  | _ => false

def hasAll (E : List Nat) : List Nat → Bool
  | [] => true
  | i :: is => bif has E i then hasAll E is else false

theorem hasAll_spec {E : List Nat} : ∀ {is : List Nat}, hasAll E is = true ↔ ∀ i ∈ is, i ∈ E
  | [] => by simp [hasAll]
  | i :: is => by
    simp only [hasAll, cond_eq_ite, List.mem_cons, forall_eq_or_imp, ← has_iff]
    by_cases h : has E i = true
    · simp [h, hasAll_spec (is := is), has_iff]
    · simp [h]

def nextQ (E : List Nat) : List Nat → List Oper → Option (Nat × Oper)
  | i :: is, o :: os => bif quiet o.op && !has E i && hasAll E (preds o) then some (i, o) else nextQ E is os
  | _, _ => none

def effs (E : List Nat) : List Nat → List Oper → List (Nat × Oper)
  | i :: is, o :: os => bif !quiet o.op && !has E i && hasAll E (preds o) then (i, o) :: effs E is os else effs E is os
  | _, _ => []

/-- Those that stand ahead, and those ahead of these. -/
def ahead (ops : List Oper) : Nat → List Nat → List Nat → List Nat
  | 0, _, acc => acc
  | _, [], acc => acc
  | n + 1, i :: is, acc =>
    bif has acc i then ahead ops n is acc else
      match nth ops i with
      | some o => ahead ops n (preds o ++ is) (i :: acc)
      | none => ahead ops n is acc

def valIs (T : Tm) (o : Oper) (v : AV) : Prop :=
  match o.dst with
  | some d => v = lk T d
  | none => True

/-- What an operation yields, or that it is skipped. -/
def guarded (all : List Oper) (T : Tm) (o : Oper) (k : Tm → Bool → Prop) : Prop :=
  match o.guard with
  | none => k T true
  | some (j, want) =>
    match (nth all j).bind (·.dst) with
    | some d =>
      match lk T d with
      | .p (.c (.f (.bool b))) =>
        brc b
          (match want with
            | true => k ((d, bl true) :: T) true
            | false => k ((d, bl true) :: T) false)
          (match want with
            | false => k ((d, bl false) :: T) true
            | true => k ((d, bl false) :: T) false)
      | .tup [] => k T false
      | _ => False
    | none => False

/-- Looked at again, it is the same. -/
def again (P : Program) (all : List Oper) (T : Tm) (H : List PO) (o : Oper) : Prop :=
  guarded all T o fun T' b =>
    match b with
    | true => aop P T' H (fun v _ _ => valIs T o v) o.op
    | false => valIs T o undefA

def checks (P : Program) (all : List Oper) (E S : List Nat) (T : Tm) (H : List PO) (k : Prop) : List Nat → List Oper → Prop
  | i :: is, o :: os => bif quiet o.op && has E i && !has S i then again P all T H o ∧ checks P all E S T H k is os else checks P all E S T H k is os
  | _, _ => k

def allR {α : Type} (k : α → Prop) : List α → Prop
  | [] => True
  | [x] => k x
  | x :: xs => k x ∧ allR k xs

theorem allR_spec {α : Type} {k : α → Prop} : ∀ {l : List α}, allR k l → ∀ x ∈ l, k x
  | [], _, x, hx => by simp at hx
  | [y], h, x, hx => by simp at hx; subst hx; exact h
  | y :: z :: l, h, x, hx => by
    rcases List.mem_cons.1 hx with rfl | hx
    · exact h.1
    · exact allR_spec h.2 x hx

def drawn (P : Program) (nt : Nat) (all : List Oper) : Nat → List Nat → List Nat → Tm → List Nat → List PO → (Tm → List Nat → List PO → Prop) → Prop
  | 0, _, _, _, _, _, _ => False
  | fuel + 1, E, S, T, M, H, K =>
    match nextQ E numbers all with
    | some (i, o) => guarded all T o fun T' b =>
      match b with
      | true => aop P T' H (fun v _ _ => putT nt T' o.dst v fun T'' => drawn P nt all fuel (i :: E) S T'' M H K) o.op
      | false => putT nt T' o.dst undefA fun T'' => drawn P nt all fuel (i :: E) S T'' M H K
    | none =>
      match effs E numbers all with
      | [] => bif hasAll E (numbers.take all.length) then K T M H else False
      | R => allR (fun (x : Nat × Oper) => guarded all T x.2 fun T' b =>
        match b with
        | true => aop P T' H (fun v M' H' => killT M' T' fun T1 => putT nt T1 x.2.dst v fun T2 => addM M' M fun M2 =>
            checks P all E (ahead all 1000 [x.1] S) T2 H' (drawn P nt all fuel (x.1 :: E) (ahead all 1000 [x.1] S) T2 M2 H' K) numbers all) x.2.op
        | false => putT nt T' x.2.dst undefA fun T2 =>
            checks P all E (ahead all 1000 [x.1] S) T2 H (drawn P nt all fuel (x.1 :: E) (ahead all 1000 [x.1] S) T2 M H K) numbers all) R

/-- Each name is laid once, and looked at behind that alone. -/
def ssa (all : List Oper) : Bool :=
  Nat.blt all.length 100 &&
  all.zipIdx.all fun (o, i) => ((preds o).all fun p => Nat.blt p i) && (match o.op with | .select _ _ => false | _ => true) &&
    (!quiet o.op || match o.dst with
      | none => true
      | some d => (!has (o.looksAt all.toArray) d) && all.zipIdx.all fun (o', j) => Nat.beq j i || (!(o'.dst == some d) && (!has (o'.looksAt all.toArray) d || has (preds o') i)))

section
variable {B R : Nat → Prop} {w0 : World} {P : Program}

theorem ev_congr {T T' : Tm} {x : Operand} (h : ∀ t, x = .tmp t → lk T t = lk T' t) : ev T x = ev T' x := by
  cases x <;> simp [ev]
  exact h _ rfl

theorem evs_congr {T T' : Tm} : ∀ {xs : List Operand} {k : List AV → Prop}, (∀ x ∈ xs, ev T x = ev T' x) → evs T xs k → evs T' xs k
  | [], _, _, h => h
  | x :: xs, k, he, h => by
    simp only [evs, fA_eq] at h ⊢
    rw [← he x (by simp)]
    exact evs_congr (xs := xs) (fun y hy => he y (by simp [hy])) h

theorem aop_congr {T T' : Tm} {H : List PO} {K : AV → List Nat → List PO → Prop} {op : Op} (he : ∀ x ∈ op.operands, ev T x = ev T' x) (h : aop P T H K op) : aop P T' H K op := by
  cases op <;> simp only [Op.operands] at he <;> simp only [aop, fA_eq] at h ⊢ <;> try exact h
  case build t ps =>
    have : (ps.toList.map fun p => (p.1, ev T' p.2)) = ps.toList.map fun p => (p.1, ev T p.2) := List.map_congr_left fun p hp => by
      rw [he p.2 (by simp; exact ⟨p.1, by simpa using hp⟩)]
    rwa [this]
  case buildSlice t n ps =>
    have : (ps.toList.map fun p => (p.1, ev T' p.2)) = ps.toList.map fun p => (p.1, ev T p.2) := List.map_congr_left fun p hp => by
      rw [he p.2 (by simp; exact ⟨p.1, by simpa using hp⟩)]
    rwa [this]
  case slice t x lo hi mx =>
    have h1 : ∀ y : Option Operand, (∀ z ∈ y.toArray, ev T z = ev T' z) → y.map (ev T') = y.map (ev T) := fun y hy => by
      cases y with
      | none => rfl
      | some z => simp [hy z (by simp)]
    rw [← he x (by simp), h1 lo fun z hz => he z (by simp [hz]), h1 hi fun z hz => he z (by simp [hz]), h1 mx fun z hz => he z (by simp [hz])]
    exact h
  case makeFunc f first caps =>
    split at h <;> try exact h.elim
    exact evs_congr (fun x hx => he x (by simp [Array.mem_def.2 hx])) h
  case next x s =>
    cases s with
    | true => exact h
    | false =>
      have hx := he x (by simp)
      dsimp only at h ⊢
      rw [← hx]
      exact h
  case call c =>
    obtain ⟨callee, args, tys⟩ := c
    dsimp only at h ⊢
    cases callee with
    | value f =>
      simp only [Call.operands] at he
      dsimp only at h ⊢
      rw [← he f (by simp)]
      split at h <;> try exact h.elim
      exact evs_congr (fun x hx => he x (by simp [Array.mem_def.2 hx])) h
    | builtin b =>
      simp only [Call.operands] at he
      exact evs_congr (fun x hx => he x (by simp [Array.mem_def.2 hx])) h
    | invoke r m => exact h
  all_goals simp at he
  all_goals simp only [he] at h
  all_goals exact h

/-- What only looks leaves all as it was. -/
theorem quiet_aop {T : Tm} {H : List PO} {K : AV → List Nat → List PO → Prop} {op : Op} (hq : quiet op = true) (h : aop P T H K op) : aop P T H (fun v M H' => M = [] ∧ H' = H ∧ K v M H') op := by
  cases op <;> simp only [quiet, Bool.false_eq_true] at hq <;> simp only [aop, fA_eq, true_and] at h ⊢ <;> try exact h
  case call c =>
    obtain ⟨callee, args, tys⟩ := c
    dsimp only at h hq ⊢
    split at hq
    · dsimp only at h ⊢
      have h2 := evs_spec h
      clear h
      have : ∀ {xs : List Operand} {k : List AV → Prop}, k (xs.map (ev T)) → evs T xs k := by
        intro xs
        induction xs with
        | nil => intro k hk; exact hk
        | cons x xs ih => intro k hk; simp only [evs, fA_eq]; exact ih hk
      refine this ?_
      clear this
      generalize args.toList.map (ev T) = l at h2 ⊢
      rcases l with _ | ⟨x, _ | ⟨y, l⟩⟩ <;> simp only [builtinA] at h2 ⊢
      split at h2 <;> try exact h2.elim
      simpa using h2
    · cases hq

/-! ### All orders -/

theorem guarded_congr {all : List Oper} {T T' : Tm} {o : Oper} {k k' : Tm → Bool → Prop} (he : ∀ t ∈ o.looksAt all.toArray, lk T t = lk T' t) (hk : ∀ b U U', (∀ i, lk U i = lk T i) → (∀ i, lk U' i = lk T' i) → k U b → k' U' b)
    (h : guarded all T o k) : guarded all T' o k' := by
  unfold guarded at h ⊢
  cases hg : o.guard with
  | none => rw [hg] at h; exact hk _ _ _ (fun _ => rfl) (fun _ => rfl) h
  | some jw =>
    obtain ⟨j, want⟩ := jw
    rw [hg] at h
    dsimp only at h ⊢
    split at h <;> try exact h.elim
    rename_i d hd
    have hl : lk T d = lk T' d := he d (by
      unfold Oper.looksAt
      rw [hg]
      rw [nth_eq] at hd
      simp only [List.mem_append]
      right
      have h9 : ((all[j]?).bind (·.dst)).toList = [d] := by rw [hd]; rfl
      simp only [List.getElem?_toArray]
      rw [h9]; simp)
    rw [← hl]
    split at h <;> try exact h.elim
    · rename_i b hb
      have h1 : ∀ (U : Tm), lk U d = bl b → ∀ i, lk ((d, bl b) :: U) i = lk U i := fun U hU i => by
        rw [lk_cons]; split
        · rename_i hh; subst hh; exact hU.symm
        · rfl
      have h2 := h1 T hb
      have h3 := h1 T' (by rw [← hl]; exact hb)
      replace h := brc_elim h
      cases b <;> cases want <;> simp only [Bool.false_eq_true, if_false, if_true] at h <;> simp only [brc] <;> exact hk _ _ _ h2 h3 h
    · exact hk _ _ _ (fun _ => rfl) (fun _ => rfl) h

/-! ### What only looks has one value -/

def Det {α : Type} (f : (α → Prop) → Prop) : Prop := ∀ K, f K → ∃ v, K v ∧ ∀ K' : α → Prop, K' v → f K'

theorem takeK_det {α β : Type} {g : List α → β} : ∀ (l : List α) (f n : Nat), Det fun K : β → Prop => takeK l f n fun x => K (g x)
  | l, 0, 0, K, h => by cases l <;> exact ⟨_, h, fun _ hk => hk⟩
  | [], f + 1, n, K, h => by cases n <;> exact h.elim
  | [], 0, n + 1, K, h => h.elim
  | x :: xs, 0, n + 1, K, h => takeK_det (g := fun l => g (x :: l)) xs 0 n K h
  | x :: xs, f + 1, 0, K, h => takeK_det (g := g) xs f 0 K h
  | x :: xs, f + 1, n + 1, K, h => takeK_det (g := g) xs f (n + 1) K h

theorem setsK_k {k k' : List CV → Prop} : ∀ {row : List CV} {f : Nat} {ys : List CV}, setsK row f ys k → (k (splice row f ys) → k' (splice row f ys)) → setsK row f ys k'
  | row, f, [], h, hk => by cases row <;> exact hk (by simpa [setsK, splice] using h)
  | [], f, y :: ys, h, hk => by cases f <;> exact h.elim
  | x :: xs, 0, y :: ys, h, hk => by
    simp only [setsK] at h ⊢
    refine setsK_k h fun h2 => ?_
    simp only [splice, List.set_cons_zero] at hk
    rw [splice_cons] at hk
    exact hk h2
  | x :: xs, f + 1, y :: ys, h, hk => by
    simp only [setsK] at h ⊢
    refine setsK_k h fun h2 => ?_
    rw [splice_cons] at hk
    exact hk h2

theorem fillK_det {place : Nat → Option (Nat × Nat)} {β : Type} {g : List CV → β} : ∀ (parts : List (Nat × AV)) (cells : List CV), Det fun K : β → Prop => fillK place cells (fun x => K (g x)) parts
  | [], cells, K, h => ⟨_, h, fun _ hk => hk⟩
  | (i, x) :: parts, cells, K, h => by
    simp only [fillK] at h ⊢
    split at h <;> try exact h.elim
    rename_i off size v hp
    simp only [cond_eq_ite] at h
    split at h
    · exact h.elim
    rename_i h1
    split at h <;> try exact h.elim
    rename_i h2
    obtain ⟨_, h3⟩ := setsK_spec _ _ _ _ h
    obtain ⟨v0, hv, hk⟩ := fillK_det (g := g) parts _ K h3
    refine ⟨v0, hv, fun K' hK' => ?_⟩
    simp only [cond_eq_ite, if_neg h1, if_pos h2]
    exact setsK_k h fun _ => hk K' hK'

theorem det_false {α : Type} {f : (α → Prop) → Prop} (h : ∀ K, ¬ f K) : Det f := fun K hf => absurd hf (h K)

theorem bif_det {α : Type} {b : Bool} {f : (α → Prop) → Prop} (h : Det f) : Det fun K => bif b then f K else False := by
  cases b
  · exact det_false fun K => id
  · exact h

theorem loadA_det {H : List PO} {t : TypeId} {x : AV} : Det (loadA P H t x) := by
  intro K h
  unfold loadA at h ⊢
  split at h <;> try exact h.elim
  · split at h <;> try exact h.elim
    rename_i cs hcs
    try simp only [hcs]
    split at h
    · rename_i ha
      try simp only [ha]
      revert K h
      exact bif_det (takeK_det (g := PV.agg) _ _ _)
    · rename_i ha
      try simp only [ha]
      split at h <;> try exact h.elim
      rename_i y hy
      try simp only [hy]
      exact ⟨_, h, fun _ hk => hk⟩
    · exact h.elim
  · split at h <;> try exact h.elim
    · rename_i hcs
      try simp only [hcs]
      split at h <;> try exact h.elim
      · rename_i ha; try simp only [ha]
        revert K h
        refine bif_det fun K h => ?_
        simp only [fmapK_eq] at h ⊢
        obtain ⟨row, h1, h⟩ := h
        obtain ⟨v, hv, hk⟩ := takeK_det (g := fun l => PV.agg (l.map .f)) _ _ _ K h
        exact ⟨v, hv, fun K' hK' => ⟨row, h1, hk K' hK'⟩⟩
      · rename_i ha; try simp only [ha]
        obtain ⟨row, y, h1, h2, h4⟩ := h
        exact ⟨_, h4, fun _ hk => ⟨row, y, h1, h2, hk⟩⟩
    · rename_i hcs
      try simp only [hcs]
      split at h <;> try exact h.elim
      rename_i ha; try simp only [ha]
      obtain ⟨rs, h1, h2⟩ := h
      exact ⟨_, h2, fun _ hk => ⟨rs, h1, hk⟩⟩
    · rename_i hcs
      try simp only [hcs]
      split at h <;> try exact h.elim
      rename_i ha; try simp only [ha]
      obtain ⟨l, rs, h1, h2⟩ := h
      exact ⟨_, h2, fun _ hk => ⟨l, rs, h1, hk⟩⟩
  · split at h <;> try exact h.elim
    rename_i hcs
    try simp only [hcs]
    split at h <;> try exact h.elim
    · rename_i ha; try simp only [ha]
      revert K h
      refine bif_det fun K h => ?_
      simp only [fmapK_eq] at h ⊢
      obtain ⟨rs, row, h0, h1, h⟩ := h
      obtain ⟨v, hv, hk⟩ := takeK_det (g := fun l => PV.agg (l.map .f)) _ _ _ K h
      exact ⟨v, hv, fun K' hK' => ⟨rs, row, h0, h1, hk K' hK'⟩⟩
    · rename_i ha; try simp only [ha]
      obtain ⟨rs, row, y, h0, h1, h2, h4⟩ := h
      exact ⟨_, h4, fun _ hk => ⟨rs, row, y, h0, h1, h2, hk⟩⟩
  · split at h <;> try exact h.elim
    rename_i hcs
    try simp only [hcs]
    split at h <;> try exact h.elim
    · rename_i ha; try simp only [ha]
      revert K h
      refine bif_det fun K h => ?_
      simp only [fmapK_eq] at h ⊢
      exact takeK_det (g := fun l => PV.agg (l.map .f)) _ _ _ K h
    · rename_i ha; try simp only [ha]
      obtain ⟨y, h1, h2⟩ := h
      exact ⟨_, h2, fun _ hk => ⟨y, h1, hk⟩⟩

theorem intBin_det {op : BinOp} {k : IntKind} {a b : Int} : Det (intBin op k a b) := by
  intro K h
  cases op <;> simp only [intBin, nonneg_iff, nonzero_iff] at h ⊢ <;> first | exact ⟨_, h, fun _ hk => hk⟩ | exact ⟨_, h.2, fun _ hk => ⟨h.1, hk⟩⟩

theorem strBin_det {op : BinOp} {a b : List UInt8} : Det (strBin op a b) := by
  intro K h
  cases op <;> simp only [strBin] at h ⊢ <;> first | exact h.elim | exact ⟨_, h, fun _ hk => hk⟩ | exact ⟨_, h.2, fun _ hk => ⟨h.1, hk⟩⟩

theorem boolBin_det {op : BinOp} {t : TypeId} {a b : Bool} : Det (boolBin P op t a b) := by
  intro K h
  unfold boolBin at h ⊢
  split at h <;> try exact h.elim
  all_goals
    rename_i hu
    try simp only [hu]
    exact ⟨_, h, fun _ hk => hk⟩

/-- What is so of any continuation, or of none. -/
theorem det_of {α : Type} {f : (α → Prop) → Prop} {c : Prop} {v : α} (h : ∀ K, f K ↔ (c ∧ K v)) : Det f := fun K hf => ⟨v, ((h K).1 hf).2, fun K' hk => (h K').2 ⟨((h K).1 hf).1, hk⟩⟩

theorem eqK_det {op : BinOp} {o : Option Bool} : Det fun K : AV → Prop => match op, o with
      | .eql, some b => K (bl b)
      | .neq, some b => K (bl (!b))
      | _, _ => False := by
  cases o with
  | none => exact det_false fun K => by cases op <;> exact id
  | some b => cases op <;> first | exact fun K h => ⟨_, h, fun _ hk => hk⟩ | exact det_false fun K => id

theorem and_det {α : Type} {p : Prop} {f : (α → Prop) → Prop} (hf : Det f) : Det fun K => p ∧ f K := fun K h =>
  let ⟨v, hv, hk⟩ := hf K h.2
  ⟨v, hv, fun K' hK' => ⟨h.1, hk K' hK'⟩⟩

theorem binA_det {op : BinOp} {t : TypeId} {c : Bool} {x y : AV} : Det (binA P op t c x y) := by
  cases x with
  | u => exact det_false fun K => by simp [binA]
  | tup _ => exact det_false fun K => by simp [binA]
  | p x =>
    cases y with
    | u => exact det_false fun K => by simp [binA]
    | tup _ => exact det_false fun K => by simp [binA]
    | p y =>
      cases x with
      | agg xs =>
        cases y with
        | c y => exact det_false fun K => by simp [binA]
        | agg ys =>
          intro K h
          simp only [binA] at h ⊢
          split at h <;> try exact h.elim
          rename_i hx hy
          try simp only [hx, hy]
          exact and_det (bif_det eqK_det) K h
      | c x =>
        cases y with
        | agg ys => exact det_false fun K => by simp [binA]
        | c y =>
          intro K h
          unfold binA at h ⊢
          simp only at h ⊢
          split at h
          · split at h
            · exact intBin_det K h
            · exact intBin_det K h
            · rename_i h1 h2
              obtain ⟨v, hv, hk⟩ := bif_det intBin_det K h
              refine ⟨v, hv, fun K' hK' => ?_⟩
              cases op <;> first | exact absurd rfl h1 | exact absurd rfl h2 | exact hk K' hK'
          · exact strBin_det K h
          · exact boolBin_det K h
          · rename_i n1 n2 n3
            obtain ⟨v, hv, hk⟩ := bif_det eqK_det K h
            exact ⟨v, hv, fun K' hK' => hk K' hK'⟩

theorem unA_det {op : UnOp} {x : AV} : Det (unA op x) := by
  intro K h
  unfold unA at h ⊢
  split at h <;> first | exact h.elim | exact ⟨_, h, fun _ hk => hk⟩

theorem convA_det {s d : TypeId} {x : AV} : Det (convA P s d x) := by
  refine bif_det fun K h => ?_
  split at h <;> first | exact h.elim | exact ⟨_, h, fun _ hk => hk⟩

theorem buildA_det {t : TypeId} {parts : List (Nat × AV)} : Det (buildA P t parts) := by
  intro K h
  unfold buildA at h ⊢
  split at h <;> try exact h.elim
  exact fillK_det (g := fun cs => AV.p (.agg cs)) parts _ K h

theorem extractA_det {x : AV} {i : Nat} : Det (extractA x i) := by
  intro K h
  unfold extractA at h ⊢
  split at h <;> try exact h.elim
  split at h <;> first | exact h.elim | exact ⟨_, h, fun _ hk => hk⟩

theorem fieldAddrA_det {t : TypeId} {x : AV} {i : Nat} : Det (fieldAddrA P t x i) := by
  intro K h
  unfold fieldAddrA at h ⊢
  split at h <;> try exact h.elim
  simp only [cond_eq_ite] at h ⊢
  split at h <;> try exact h.elim
  rename_i hc
  simp only [if_neg hc]
  split at h <;> first | exact h.elim | exact ⟨_, h, fun _ hk => hk⟩

theorem mkIfaceA_det {t : TypeId} {x : AV} : Det (mkIfaceA P t x) := by
  intro K h
  unfold mkIfaceA at h ⊢
  split at h <;> try exact h.elim
  split at h <;> first | exact h.elim | exact ⟨_, h, fun _ hk => hk⟩

theorem rowsSz_det {α : Type} {e : TypeId} {sz : Nat} {f : (α → Prop) → Prop} (hf : Det f) : Det fun K => rowsSz P e sz (f K) := by
  intro K h
  obtain ⟨h1, h2, h3⟩ := rowsSz_spec h
  obtain ⟨v, hv, hk⟩ := hf K h3
  refine ⟨v, hv, fun K' hK' => ?_⟩
  subst h2
  simp [rowsSz, h1, hk K' hK']

theorem k_det {α : Type} {v : α} : Det fun K : α → Prop => K v := fun _ h => ⟨v, h, fun _ hk => hk⟩

theorem indexAddrA_det {H : List PO} {t : TypeId} {x i : AV} : Det (indexAddrA P H t x i) := by
  intro K h
  unfold indexAddrA at h ⊢
  split at h <;> try exact h.elim
  split at h
  · split at h <;> try exact h.elim
    · split at h <;> try exact h.elim
      · exact rowsSz_det (and_det (and_det k_det)) K h
      · exact rowsSz_det (and_det (and_det k_det)) K h
      · exact rowsSz_det (and_det (and_det k_det)) K h
    · split at h <;> try exact h.elim
      exact rowsSz_det (and_det (and_det (and_det k_det))) K h
  · split at h <;> try exact h.elim
    simp only [cond_eq_ite] at h ⊢
    split at h <;> try exact h.elim
    rename_i hc
    simp only [if_pos hc]
    split at h <;> try exact h.elim
    · exact (and_det (and_det k_det)) K h
    · exact (and_det (and_det k_det)) K h
    · exact (and_det (and_det k_det)) K h

theorem fieldA_det {t : TypeId} {x : AV} {i : Nat} : Det (fieldA P t x i) := by
  intro K h
  unfold fieldA at h ⊢
  split at h <;> try exact h.elim
  split at h <;> try exact h.elim
  split at h <;> try exact h.elim
  split at h <;> try exact h.elim
  exact ⟨_, h, fun _ hk => hk⟩

theorem indexA_det {t : TypeId} {x i : AV} : Det (indexA P t x i) := by
  intro K h
  unfold indexA at h ⊢
  split at h <;> try exact h.elim
  · split at h <;> try exact h.elim
    obtain ⟨h0, b, hb, hk⟩ := h
    exact ⟨_, hk, fun _ hk => ⟨h0, b, hb, hk⟩⟩
  · split at h <;> try exact h.elim
    split at h <;> try exact h.elim
    all_goals
      simp only [cond_eq_ite] at h ⊢
      split at h <;> try exact h.elim
      rename_i hi
      obtain ⟨h0, h1, b, hb, hk⟩ := h
      exact ⟨_, hk, fun _ hk => by rw [if_pos hi]; exact ⟨h0, h1, b, hb, hk⟩⟩

theorem boundsA_det {n : Nat} {lo hi : Option AV} {g : Nat → Nat → AV} : Det fun K : AV → Prop => boundsA n lo hi fun l h => K (g l h) := by
  intro K h
  unfold boundsA at h ⊢
  split at h <;> try exact h.elim
  · exact k_det K h
  · exact (and_det (and_det k_det)) K h
  · exact (and_det (and_det k_det)) K h
  · exact (and_det (and_det (and_det k_det))) K h

theorem boundsUpA_det {n : Nat} {lo hi : Option AV} {g : Nat → Nat → AV} : Det fun K : AV → Prop => boundsUpA n lo hi fun l h => K (g l h) := by
  intro K h
  unfold boundsUpA at h ⊢
  split at h <;> try exact h.elim
  · exact (and_det (and_det k_det)) K h
  · exact (and_det (and_det (and_det k_det))) K h

theorem or_det {α : Type} {f g : (α → Prop) → Prop} (hf : Det f) (hg : Det g) : Det fun K => f K ∨ g K := fun K h => by
  rcases h with h | h
  · obtain ⟨v, hv, hk⟩ := hf K h
    exact ⟨v, hv, fun K' hK' => .inl (hk K' hK')⟩
  · obtain ⟨v, hv, hk⟩ := hg K h
    exact ⟨v, hv, fun K' hK' => .inr (hk K' hK')⟩

theorem cut3A_det {H : List PO} {e : TypeId} {r o n : Nat} {nn : Bool} {l h m : Int} : Det (cut3A P H e r o n nn l h m) := by
  intro K hh
  unfold cut3A at hh ⊢
  split at hh
  · simp only [cond_eq_ite] at hh ⊢
    split at hh
    · rename_i hc
      simp only [if_pos hc]
      exact k_det K hh
    · rename_i hc
      simp only [if_neg hc]
      exact k_det K hh
  · exact k_det K hh

theorem slice3A_det {H : List PO} {t : TypeId} {x lo hi mx : AV} : Det (slice3A P H t x lo hi mx) := by
  intro K h
  unfold slice3A at h ⊢
  split at h <;> try exact h.elim
  split at h <;> try exact h.elim
  exact bif_det (and_det (and_det (and_det (and_det cut3A_det)))) K h

theorem sliceA_det {H : List PO} {t : TypeId} {x : AV} {lo hi mx : Option AV} : Det (sliceA P H t x lo hi mx) := by
  intro K h
  unfold sliceA at h ⊢
  split at h
  · split at h <;> try exact h.elim
    exact slice3A_det K h
  split at h <;> try exact h.elim
  · split at h <;> try exact h.elim
    exact boundsA_det K h
  · split at h <;> try exact h.elim
    · exact rowsSz_det (or_det boundsA_det (and_det (and_det (and_det boundsUpA_det)))) K h
    · exact rowsSz_det boundsA_det K h
    · exact rowsSz_det boundsA_det K h
  · split at h <;> try exact h.elim
    exact rowsSz_det (and_det boundsA_det) K h
  · split at h <;> try exact h.elim
    exact rowsSz_det boundsA_det K h

theorem lenA_det {t : TypeId} {x : AV} : Det (lenA P t x) := by
  intro K h
  unfold lenA at h ⊢
  split at h <;> try exact h.elim
  all_goals (split at h <;> first | exact h.elim | exact ⟨_, h, fun _ hk => hk⟩)

theorem mapT_det {α : Type} {t : TypeId} {kn : Nat} {vb : Bool} {f : (α → Prop) → Prop} (hf : Det f) : Det fun K => mapT P t kn vb (f K) := by
  intro K h
  unfold mapT at h ⊢
  split at h <;> try exact h.elim
  split at h <;> try exact h.elim
  exact bif_det hf K h

theorem keyK_det {α : Type} {kn : Nat} {x : AV} {f : List Int → (α → Prop) → Prop} (hf : ∀ k, Det (f k)) : Det fun K => keyK kn x fun k => f k K := by
  intro K h
  unfold keyK at h ⊢
  split at h <;> try exact h.elim
  · exact hf _ K h
  · split at h <;> try exact h.elim
    exact bif_det (hf _) K h

theorem lookupA_det {H : List PO} {t : TypeId} {x i : AV} {ok : Bool} : Det (lookupA P H t x i ok) := by
  intro K h
  unfold lookupA at h ⊢
  split at h <;> try exact h.elim
  split at h <;> try exact h.elim
  refine mapT_det (keyK_det fun k => ?_) K h
  cases ok
  · exact k_det
  · exact k_det

theorem lenH_det {H : List PO} {t : TypeId} {x : AV} : Det (lenH P H t x) := by
  intro K h
  unfold lenH at h ⊢
  split at h
  · split at h <;> try exact h.elim
    exact mapT_det k_det K h
  · exact lenA_det K h

theorem det_aop {T : Tm} {H : List PO} {K : AV → List Nat → List PO → Prop} {op : Op} {f : (AV → Prop) → Prop} (hf : Det f) (he : ∀ K', aop P T H K' op = f fun v => K' v [] H) (h : aop P T H K op) :
    ∃ v, K v [] H ∧ ∀ K', K' v [] H → aop P T H K' op := by
  rw [he] at h
  obtain ⟨v, hv, hk⟩ := hf _ h
  exact ⟨v, hv, fun K' hK' => by rw [he]; exact hk _ hK'⟩

/-- WHAT ONLY LOOKS HAS ONE VALUE. -/
theorem quiet_det {T : Tm} {H : List PO} {K : AV → List Nat → List PO → Prop} {op : Op} (hq : quiet op = true) (h : aop P T H K op) : ∃ v, K v [] H ∧ ∀ K', K' v [] H → aop P T H K' op := by
  cases op <;> simp only [quiet, Bool.false_eq_true] at hq
  case move x => exact det_aop (f := fun K => K (ev T x)) k_det (fun K' => by simp only [aop, fA_eq]) h
  case pick c x y =>
    simp only [aop, fA_eq] at h ⊢
    split at h <;> try exact h.elim
    rename_i t _
    cases t
    · exact ⟨_, h, fun _ hk => hk⟩
    · exact ⟨_, h, fun _ hk => hk⟩
  case build t ps => exact det_aop buildA_det (fun _ => rfl) h
  case load t x =>
    obtain ⟨v, hv, hk⟩ := loadA_det (fun x => K (.p x) [] H) h
    exact ⟨.p v, hv, fun K' hK' => hk (fun x => K' (.p x) [] H) hK'⟩
  case nilCheck x =>
    simp only [aop] at h ⊢
    split at h <;> first | exact h.elim | exact ⟨_, h, fun _ hk => hk⟩
  case binOp op t x y ty => exact det_aop binA_det (fun _ => rfl) h
  case unOp op t x => exact det_aop unA_det (fun _ => rfl) h
  case convert s d x => exact det_aop convA_det (fun _ => rfl) h
  case makeInterface t x => exact det_aop mkIfaceA_det (fun _ => rfl) h
  case fieldAddr t x i => exact det_aop fieldAddrA_det (fun _ => rfl) h
  case extract x i => exact det_aop extractA_det (fun _ => rfl) h
  case field t x i => exact det_aop fieldA_det (fun _ => rfl) h
  case indexAddr t x i => exact det_aop indexAddrA_det (fun _ => rfl) h
  case index t x i => exact det_aop indexA_det (fun _ => rfl) h
  case slice t x lo hi mx => exact det_aop sliceA_det (fun _ => rfl) h
  case lookup t x i ok => exact det_aop lookupA_det (fun _ => rfl) h
  case call c =>
    obtain ⟨callee, args, tys⟩ := c
    dsimp only at hq
    split at hq
    · have e : ∀ {xs : List Operand} {k : List AV → Prop}, evs T xs k ↔ k (xs.map (ev T)) := by
        intro xs
        induction xs with
        | nil => intro k; exact Iff.rfl
        | cons x xs ih => intro k; simp only [evs, fA_eq]; exact ih
      simp only [aop, e] at h ⊢
      generalize args.toList.map (ev T) = l at h ⊢
      rcases l with _ | ⟨x, _ | ⟨y, l⟩⟩ <;> simp only [builtinA] at h ⊢
      split at h <;> try exact h.elim
      obtain ⟨v, hv, hk⟩ := lenH_det _ h
      exact ⟨v, hv, fun K' hK' => hk (fun x => K' x [] H) hK'⟩
    · cases hq

/-! ### The orders -/

theorem nextQ_spec {E : List Nat} : ∀ {os : List Oper} {m s i : Nat} {o : Oper}, nextQ E (List.range' s m) os = some (i, o) → s ≤ i ∧ os[i - s]? = some o ∧ quiet o.op = true ∧ i ∉ E ∧ ∀ p ∈ preds o, p ∈ E
  | [], m, s, i, o, h => by cases m <;> simp [nextQ, List.range'_succ] at h
  | x :: os, 0, s, i, o, h => by simp [nextQ] at h
  | x :: os, m + 1, s, i, o, h => by
    simp only [List.range'_succ, nextQ, cond_eq_ite] at h
    split at h
    · rename_i hc
      simp only [Option.some.injEq, Prod.mk.injEq] at h
      obtain ⟨rfl, rfl⟩ := h
      simp only [Bool.and_eq_true, Bool.not_eq_true'] at hc
      exact ⟨Nat.le_refl _, by simp, hc.1.1, has_false hc.1.2, hasAll_spec.1 hc.2⟩
    · obtain ⟨h1, h2, h3⟩ := nextQ_spec h
      refine ⟨by omega, ?_, h3⟩
      rw [show i - s = (i - (s + 1)) + 1 by omega]
      simpa using h2

theorem nextQ_none {E : List Nat} : ∀ {os : List Oper} {m s : Nat}, os.length ≤ m → nextQ E (List.range' s m) os = none → ∀ (i : Nat) (o : Oper), os[i]? = some o → quiet o.op = true → (∀ p ∈ preds o, p ∈ E) → s + i ∈ E
  | [], m, s, _, _, i, o, ho, _, _ => by simp at ho
  | x :: os, 0, s, hl, _, _, _, _, _, _ => by simp at hl
  | x :: os, m + 1, s, hl, h, i, o, ho, hq, hp => by
    simp only [List.range'_succ, nextQ, cond_eq_ite] at h
    split at h
    · cases h
    · rename_i hc
      cases i with
      | zero =>
        simp at ho; subst ho
        refine Classical.byContradiction fun hn => hc ?_
        have : has E s = false := by cases hh : has E s with
          | false => rfl
          | true => exact absurd (has_iff.1 hh) hn
        simp [hq, this, hasAll_spec.2 hp]
      | succ i =>
        have := nextQ_none (by simpa using hl) h i o (by simpa using ho) hq hp
        rwa [show s + 1 + i = s + (i + 1) by omega] at this

theorem effs_spec {E : List Nat} : ∀ {os : List Oper} {m s : Nat}, os.length ≤ m → ∀ (i : Nat) (o : Oper), os[i]? = some o → quiet o.op = false → s + i ∉ E → (∀ p ∈ preds o, p ∈ E) → (s + i, o) ∈ effs E (List.range' s m) os
  | [], m, s, _, i, o, ho, _, _, _ => by simp at ho
  | x :: os, 0, s, hl, _, _, _, _, _, _ => by simp at hl
  | x :: os, m + 1, s, hl, i, o, ho, hq, hn, hp => by
    simp only [List.range'_succ, effs, cond_eq_ite]
    cases i with
    | zero =>
      simp at ho; subst ho
      have : has E s = false := by cases hh : has E s with
        | false => rfl
        | true => exact absurd (has_iff.1 hh) hn
      rw [if_pos (by simp [hq, this, hasAll_spec.2 hp])]
      simp
    | succ i =>
      have := effs_spec (E := E) (s := s + 1) (m := m) (by simpa using hl) i o (by simpa using ho) hq (by rwa [show s + 1 + i = s + (i + 1) by omega]) hp
      rw [show s + 1 + i = s + (i + 1) by omega] at this
      split
      · exact List.mem_cons_of_mem _ this
      · exact this

theorem checks_spec {all : List Oper} {E S : List Nat} {T : Tm} {H : List PO} {k : Prop} : ∀ {os : List Oper} {m s : Nat}, os.length ≤ m → checks P all E S T H k (List.range' s m) os →
    k ∧ ∀ (i : Nat) (o : Oper), os[i]? = some o → quiet o.op = true → s + i ∈ E → s + i ∉ S → again P all T H o
  | [], m, s, _, h => by
    refine ⟨by cases m <;> simpa [checks, List.range'_succ] using h, fun i o ho => by simp at ho⟩
  | x :: os, 0, s, hl, _ => by simp at hl
  | x :: os, m + 1, s, hl, h => by
    simp only [List.range'_succ, checks, cond_eq_ite] at h
    have rest : checks P all E S T H k (List.range' (s + 1) m) os → ∀ (i : Nat) (o : Oper), os[i]? = some o → quiet o.op = true → s + (i + 1) ∈ E → s + (i + 1) ∉ S → again P all T H o := fun hh i o ho hq h1 h2 =>
      (checks_spec (by simpa using hl) hh).2 i o ho hq (by rwa [show s + 1 + i = s + (i + 1) by omega]) (by rwa [show s + 1 + i = s + (i + 1) by omega])
    split at h
    · obtain ⟨h1, h2⟩ := h
      refine ⟨(checks_spec (by simpa using hl) h2).1, fun i o ho hq he hs => ?_⟩
      cases i with
      | zero => simp at ho; subst ho; exact h1
      | succ i => exact rest h2 i o (by simpa using ho) hq he hs
    · rename_i hc
      refine ⟨(checks_spec (by simpa using hl) h).1, fun i o ho hq he hs => ?_⟩
      cases i with
      | zero =>
        simp at ho; subst ho
        have : has S s = false := by cases hh : has S s with
          | false => rfl
          | true => exact absurd (has_iff.1 hh) hs
        exact absurd (by simp [hq, this, has_iff.2 (show s ∈ E from he)]) hc
      | succ i => exact rest h i o (by simpa using ho) hq he hs

theorem ahead_spec {all : List Oper} {D : Nat → Prop} (hd : ∀ (i : Nat) (o : Oper), D i → all[i]? = some o → ∀ p ∈ preds o, D p) : ∀ (n : Nat) (is acc : List Nat), (∀ i ∈ is, D i) → (∀ i ∈ acc, D i) → ∀ i ∈ ahead all n is acc, D i
  | 0, is, acc, _, h2 => by simpa [ahead] using h2
  | n + 1, [], acc, _, h2 => by simpa [ahead] using h2
  | n + 1, i :: is, acc, h1, h2 => by
    simp only [ahead, cond_eq_ite]
    split
    · exact ahead_spec hd n is acc (fun j hj => h1 j (by simp [hj])) h2
    · split
      · rename_i o ho
        rw [nth_eq] at ho
        refine ahead_spec hd n _ _ (fun j hj => ?_) (fun j hj => ?_)
        · rcases List.mem_append.1 hj with hj | hj
          · exact hd i o (h1 i (by simp)) ho j hj
          · exact h1 j (by simp [hj])
        · rcases List.mem_cons.1 hj with rfl | hj
          · exact h1 _ (by simp)
          · exact h2 j hj
      · exact ahead_spec hd n is acc (fun j hj => h1 j (by simp [hj])) h2

structure SSA (all : List Oper) : Prop where
  small : all.length < 100
  back : ∀ (i : Nat) (o : Oper), all[i]? = some o → ∀ p ∈ preds o, p < i
  once : ∀ (i : Nat) (o : Oper) (d : Nat), all[i]? = some o → quiet o.op = true → o.dst = some d → d ∉ o.looksAt all.toArray ∧
    ∀ (j : Nat) (o' : Oper), all[j]? = some o' → j ≠ i → o'.dst ≠ some d ∧ (d ∈ o'.looksAt all.toArray → i ∈ preds o')

theorem ssa_spec {all : List Oper} (h : ssa all = true) : SSA all := by
  simp only [ssa, Bool.and_eq_true, List.all_eq_true] at h
  obtain ⟨h1, h2⟩ := h
  have hz : ∀ (i : Nat) (o : Oper), all[i]? = some o → (o, i) ∈ all.zipIdx := fun i o ho => List.mem_zipIdx_iff_getElem?.2 (by simpa using ho)
  refine ⟨by simpa [Nat.blt_eq] using h1, fun i o ho p hp => ?_, fun i o d ho hq hd => ?_⟩
  · obtain ⟨⟨h3, _⟩, _⟩ := h2 _ (hz i o ho)
    have := h3 p hp
    simpa [Nat.blt_eq] using this
  · obtain ⟨_, h4⟩ := h2 _ (hz i o ho)
    simp only [hq, hd, Bool.not_true, Bool.false_or, Bool.and_eq_true, Bool.not_eq_true', List.all_eq_true] at h4
    refine ⟨has_false h4.1, fun j o' ho' hji => ?_⟩
    have := h4.2 _ (hz j o' ho')
    have hb : Nat.beq j i = false := by cases hb : Nat.beq j i with
      | false => rfl
      | true => exact absurd (Nat.eq_of_beq_eq_true hb) hji
    simp only [hb, Bool.false_or, Bool.and_eq_true, Bool.not_eq_true', beq_eq_false_iff_ne, Bool.or_eq_true] at this
    exact ⟨this.1, fun hm => by
      rcases this.2 with h5 | h5
      · exact absurd hm (has_false h5)
      · exact has_iff.1 h5⟩

/-- What the drawn order has done so far, and what is looked at ahead of it. -/
structure Inv (P : Program) (nt N0 : Nat) (L0 : Nat → Loc) (B R : Nat → Prop) (w0 : World) (all : List Oper) (E S : List Nat) (T : Tm) (M : List Nat) (H : List PO) (listed : Array Bool) (L : Nat → Loc) (w : World) (a : Act) : Prop where
  size : listed.size = all.length
  sub : ∀ i, listed.getD i false = true → i ∈ E
  down : ∀ (i : Nat) (o : Oper), listed.getD i false = true → all[i]? = some o → ∀ p ∈ preds o, listed.getD p false = true
  edown : ∀ (i : Nat) (o : Oper), i ∈ E → all[i]? = some o → ∀ p ∈ preds o, p ∈ E
  eff : ∀ (i : Nat) (o : Oper), i ∈ E → all[i]? = some o → quiet o.op = false → listed.getD i false = true
  sure : ∀ i ∈ S, listed.getD i false = true
  tr : ∀ t, (∃ (i : Nat) (o : Oper), i ∈ E ∧ listed.getD i false = false ∧ all[i]? = some o ∧ o.dst = some t) ∨ VA H.length L (lk T t) (a.tmps.getD t undef)
  bound : ∀ (i : Nat) (o : Oper) (d : Nat), i ∈ E → all[i]? = some o → o.dst = some d → d < nt
  defers : a.defers = []
  room : nt ≤ a.tmps.size
  pend : ∀ (i : Nat) (o : Oper), i ∈ E → listed.getD i false = false → all[i]? = some o → again P all T H o
  hN : N0 ≤ H.length
  hag : Agree N0 M L0 L
  rel : Rel B R w0 L H w

theorem lk_looks (l : List Nat) (T : Tm) (t : Nat) : lk (l.map fun t => (t, lk T t)) t = if t ∈ l then lk T t else .u := by
  induction l with
  | nil => simp [lk]
  | cons x l ih =>
    rw [List.map_cons, lk_cons, ih]
    by_cases h : x = t
    · subst h; simp
    · by_cases h2 : t ∈ l
      · simp [h, h2]
      · have h3 : ¬ (t = x) := fun e => h e.symm
        simp [h, h2, h3]

section
variable {nt N0 : Nat} {L0 : Nat → Loc} {all : List Oper} {E S : List Nat} {T : Tm} {M : List Nat} {H : List PO} {listed : Array Bool} {L : Nat → Loc} {w : World} {a : Act}

/-- The operands of what may be done next are there. -/
theorem Inv.looks (hs : SSA all) (h : Inv P nt N0 L0 B R w0 all E S T M H listed L w a) {i : Nat} {o : Oper} (hi : all[i]? = some o) (hp : ∀ p ∈ preds o, listed.getD p false = true) :
    TR H.length L nt ((o.looksAt all.toArray).map fun t => (t, lk T t)) a := by
  refine ⟨fun t => ?_, h.defers, h.room⟩
  rw [lk_looks]
  split
  · rename_i ht
    rcases h.tr t with ⟨j, oj, hj, hjl, hoj, hd⟩ | hv
    · exfalso
      have hq : quiet oj.op = true := by
        cases hq : quiet oj.op with
        | true => rfl
        | false => rw [h.eff j oj hj hoj hq] at hjl; cases hjl
      obtain ⟨h1, h2⟩ := hs.once j oj t hoj hq hd
      by_cases hij : i = j
      · subst hij; rw [hi] at hoj; cases hoj; exact h1 ht
      · have := hp j ((h2 i o hi hij).2 ht)
        rw [this] at hjl; cases hjl
    · exact hv
  · trivial

theorem guarded_wanted {o : Oper} {U : Tm} (ht : TR H.length L nt U a) {k : Tm → Bool → Prop} (h : guarded all U o k) :
    ∃ U' b, (∀ i, lk U' i = lk U i) ∧ Region.wanted o (yielded all.toArray a.tmps) = b ∧ k U' b := by
  unfold guarded at h
  cases hg : o.guard with
  | none => rw [hg] at h; exact ⟨U, true, fun _ => rfl, by simp [Region.wanted, hg], h⟩
  | some jw =>
    obtain ⟨j, want⟩ := jw
    rw [hg] at h
    dsimp only at h
    split at h <;> try exact h.elim
    rename_i d hd
    obtain ⟨hw1, hw2⟩ := wanted_sound ht (ops := all.toArray) hg (by simpa using hd)
    split at h <;> try exact h.elim
    · rename_i b hb
      have h1 : ∀ i, lk ((d, bl b) :: U) i = lk U i := fun i => by
        rw [lk_cons]; split
        · rename_i hh; subst hh; exact hb.symm
        · rfl
      have hw := hw1 b hb
      replace h := brc_elim h
      cases b <;> cases want <;> simp only [Bool.false_eq_true, if_false, if_true] at h <;> exact ⟨_, _, h1, hw, by simpa using h⟩
    · rename_i hb
      exact ⟨U, false, fun _ => rfl, hw2 hb, h⟩

theorem count_set {l : List Bool} : ∀ {i : Nat}, l[i]? = some false → (l.set i true).count false + 1 = l.count false := by
  induction l with
  | nil => intro i h; simp at h
  | cons x l ih =>
    intro i h
    cases i with
    | zero => simp at h; subst h; simp
    | succ i =>
      have := ih (i := i) (by simpa using h)
      cases x <;> simp at this ⊢ <;> omega

theorem valIs_congr {T T' : Tm} {o : Oper} {v : AV} (h : ∀ d, o.dst = some d → lk T d = lk T' d) (hv : valIs T o v) : valIs T' o v := by
  unfold valIs at *
  split at hv
  · rename_i d hd; rw [← h d hd]; exact hv
  · trivial

theorem again_congr {T T' : Tm} {o : Oper} (h1 : ∀ t ∈ o.looksAt all.toArray, lk T t = lk T' t) (h2 : ∀ d, o.dst = some d → lk T d = lk T' d) (h : again P all T H o) : again P all T' H o := by
  unfold again at *
  refine guarded_congr h1 (fun b U U' hU hU' hk => ?_) h
  cases b with
  | true =>
    have e : (fun v (_ : List Nat) (_ : List PO) => valIs T' o v) = fun v _ _ => valIs T o v := by
      funext v _ _
      exact propext ⟨valIs_congr fun d hd => (h2 d hd).symm, valIs_congr h2⟩
    dsimp only at hk ⊢
    rw [e]
    refine aop_congr (fun x hx => ev_congr fun t ht => ?_) hk
    rw [hU, hU']
    refine h1 t ?_
    unfold Oper.looksAt
    refine List.mem_append_left _ (List.mem_filterMap.2 ⟨x, by simpa using hx, by rw [ht]⟩)
  | false => exact valIs_congr h2 hk

theorem op_congr {U T : Tm} {o : Oper} {K : AV → List Nat → List PO → Prop} (h : ∀ t ∈ o.looksAt all.toArray, lk U t = lk T t) (ha : aop P U H K o.op) : aop P T H K o.op :=
  aop_congr (fun x hx => ev_congr fun t ht => h t (by
    unfold Oper.looksAt
    exact List.mem_append_left _ (List.mem_filterMap.2 ⟨x, by simpa using hx, by rw [ht]⟩))) ha

end

theorem putT_at {nt : Nat} {T : Tm} {d : Option Tmp} {x : AV} {k : Tm → Prop} (h : putT nt T d x k) : ∃ T', k T' ∧ (∀ t, lk T' t = if d = some t then x else lk T t) ∧ ∀ d0, d = some d0 → d0 < nt := by
  cases d with
  | none => exact ⟨T, h, fun t => by simp, by simp⟩
  | some d =>
    simp only [putT, cond_eq_ite] at h
    split at h <;> try exact h.elim
    rename_i hd
    refine ⟨_, h, fun t => by rw [lk_cons]; simp, fun d0 h0 => ?_⟩
    cases h0
    simpa [Nat.blt_eq] using hd

theorem killT_at {M : List Nat} {T : Tm} {k : Tm → Prop} (h : killT M T k) : ∃ T', k T' ∧ ∀ t, lk T' t = killA M (lk T t) := by
  cases M with
  | nil => exact ⟨T, h, fun t => (killA_nil _).symm⟩
  | cons m M => exact ⟨_, h, fun t => lk_map _ _ _⟩

theorem guarded_det {all : List Oper} {T : Tm} {o : Oper} {k : Tm → Bool → Prop} (h : guarded all T o k) : ∃ U b, (∀ i, lk U i = lk T i) ∧ k U b ∧ ∀ k', k' U b → guarded all T o k' := by
  unfold guarded at h ⊢
  cases hg : o.guard with
  | none => rw [hg] at h; exact ⟨T, true, fun _ => rfl, h, fun k' hk => hk⟩
  | some jw =>
    obtain ⟨j, want⟩ := jw
    rw [hg] at h
    dsimp only at h ⊢
    split at h <;> try exact h.elim
    rename_i d hd
    split at h <;> try exact h.elim
    · rename_i b hb
      have h1 : ∀ i, lk ((d, bl b) :: T) i = lk T i := fun i => by
        rw [lk_cons]; split
        · rename_i hh; subst hh; exact hb.symm
        · rfl
      cases b <;> cases want <;> simp only [brc] at h ⊢ <;> exact ⟨_, _, h1, h, fun k' hk => hk⟩
    · exact ⟨T, false, fun _ => rfl, h, fun k' hk => hk⟩

section
variable {nt N0 : Nat} {L0 : Nat → Loc} {all : List Oper} {E S : List Nat} {T : Tm} {M : List Nat} {H : List PO} {listed : Array Bool} {L : Nat → Loc} {w : World} {a : Act}

theorem Inv.extend (hs : SSA all) (h : Inv P nt N0 L0 B R w0 all E S T M H listed L w a) {i : Nat} {o : Oper} (hi : all[i]? = some o) (hq : quiet o.op = true) (hn : i ∉ E) (hp : ∀ p ∈ preds o, p ∈ E) {k : Tm → Prop}
    (hg : guarded all T o fun T' b => match b with
      | true => aop P T' H (fun v _ _ => putT nt T' o.dst v k) o.op
      | false => putT nt T' o.dst undefA k) : ∃ T', k T' ∧ Inv P nt N0 L0 B R w0 all (i :: E) S T' M H listed L w a := by
  obtain ⟨U, b, hU, hk, hall⟩ := guarded_det hg
  have key : ∀ v T'', (∀ d0, o.dst = some d0 → d0 < nt) → (∀ t, lk T'' t = if o.dst = some t then v else lk U t) → again P all T'' H o → Inv P nt N0 L0 B R w0 all (i :: E) S T'' M H listed L w a := by
    intro v T'' hlt hT hag
    have hni : listed.getD i false = false := by
      cases hh : listed.getD i false with
      | false => rfl
      | true => exact absurd (h.sub i hh) hn
    refine ⟨h.size, fun j hj => List.mem_cons_of_mem _ (h.sub j hj), h.down, fun j o' hj ho' p hp' => ?_, fun j o' hj ho' hq' => ?_, h.sure, fun t => ?_, fun j o' d hj ho' hd => ?_, h.defers, h.room, fun j o' hj hjl ho' => ?_, h.hN, h.hag, h.rel⟩
    · rcases List.mem_cons.1 hj with rfl | hj
      · rw [hi] at ho'; cases ho'; exact List.mem_cons_of_mem _ (hp p hp')
      · exact List.mem_cons_of_mem _ (h.edown j o' hj ho' p hp')
    · rcases List.mem_cons.1 hj with rfl | hj
      · rw [hi] at ho'; cases ho'; rw [hq] at hq'; cases hq'
      · exact h.eff j o' hj ho' hq'
    · by_cases ht : o.dst = some t
      · exact .inl ⟨i, o, by simp, hni, hi, ht⟩
      · rcases h.tr t with ⟨j, oj, h1, h2, h3, h4⟩ | hv
        · exact .inl ⟨j, oj, List.mem_cons_of_mem _ h1, h2, h3, h4⟩
        · right; rw [hT, if_neg ht, hU]; exact hv
    · rcases List.mem_cons.1 hj with rfl | hj
      · rw [hi] at ho'; cases ho'; exact hlt d hd
      · exact h.bound j o' d hj ho' hd
    · rcases List.mem_cons.1 hj with rfl | hj
      · rw [hi] at ho'; cases ho'; exact hag
      · have hji : j ≠ i := fun e => hn (e ▸ hj)
        have hsame : ∀ t, (∀ d, o.dst = some d → t ≠ d) → lk T t = lk T'' t := fun t ht => by
          rw [hT, if_neg (fun e => ht t e rfl), hU]
        refine again_congr (fun t ht => hsame t fun d hd e => ?_) (fun t ht => hsame t fun d hd e => ?_) (h.pend j o' hj hjl ho')
        · subst e
          obtain ⟨_, h2⟩ := hs.once i o t hi hq hd
          have := h.edown j o' hj ho' i ((h2 j o' ho' hji).2 ht)
          exact hn this
        · subst e
          obtain ⟨_, h2⟩ := hs.once i o t hi hq hd
          exact (h2 j o' ho' hji).1 ht
  have looks : ∀ v T'', (∀ t, lk T'' t = if o.dst = some t then v else lk U t) → ∀ t ∈ o.looksAt all.toArray, lk T t = lk T'' t := fun v T'' hT t ht => by
    rw [hT, if_neg (fun e => (hs.once i o t hi hq e).1 ht), hU]
  cases b with
  | true =>
    obtain ⟨v, hv, hdet⟩ := quiet_det hq hk
    obtain ⟨T'', hk', hT, hb⟩ := putT_at hv
    refine ⟨T'', hk', key v T'' hb hT ?_⟩
    unfold again
    refine guarded_congr (looks v T'' hT) (fun b V V' hV hV' hh => ?_) (hall (fun V b => match b with | true => aop P V H (fun v' _ _ => v' = v) o.op | false => False) (hdet _ rfl))
    cases b with
    | false => exact hh.elim
    | true =>
      have hh2 := op_congr (all := all) (T := V') (fun t ht => by rw [hV, hV', looks v T'' hT t ht]) hh
      have : (fun v' (_ : List Nat) (_ : List PO) => valIs T'' o v') = fun v' _ _ => v' = v ∨ valIs T'' o v' := by
        funext v' _ _
        refine propext ⟨.inr, fun hv' => ?_⟩
        rcases hv' with rfl | hv'
        · unfold valIs; split
          · rename_i d hd; rw [hT, if_pos hd]
          · trivial
        · exact hv'
      obtain ⟨v2, hv2, hdet2⟩ := quiet_det hq hh2
      exact hdet2 _ (by
        subst hv2
        unfold valIs; split
        · rename_i d hd; rw [hT, if_pos hd]
        · trivial)
  | false =>
    obtain ⟨T'', hk', hT, hb⟩ := putT_at hk
    refine ⟨T'', hk', key undefA T'' hb hT ?_⟩
    unfold again
    refine guarded_congr (looks undefA T'' hT) (fun b V V' hV hV' hh => ?_) (hall (fun V b => match b with | true => False | false => True) trivial)
    cases b with
    | true => exact hh.elim
    | false =>
      show valIs T'' o undefA
      unfold valIs; split
      · rename_i d hd; rw [hT, if_pos hd]
      · trivial

theorem getD_set {l : Array Bool} {i : Nat} (hi : i < l.size) (j : Nat) : (l.setIfInBounds i true).getD j false = if j = i then true else l.getD j false := by
  by_cases h : j = i
  · subst h; simp [hi]
  · rw [if_neg h]; exact getD_set_ne false (Ne.symm h)

variable {Q : Exit → Act → World → Prop} {K : Tm → List Nat → List PO → Prop}

/-- What was looked at ahead is looked at. -/
theorem Inv.quiet_step (hs : SSA all) (h : Inv P nt N0 L0 B R w0 all E S T M H listed L w a) {i : Nat} {o : Oper} (hi : all[i]? = some o) (hiE : i ∈ E) (hni : listed.getD i false = false) (hp : ∀ p ∈ preds o, listed.getD p false = true)
    {k : Act → World → Prop} (hk : ∀ a' w' L', Inv P nt N0 L0 B R w0 all E S T M H (listed.setIfInBounds i true) L' w' a' → k a' w') : wpOp P all.toArray Q i k a w := by
  have hq : quiet o.op = true := by
    cases hq : quiet o.op with
    | true => rfl
    | false => rw [h.eff i o hiE hi hq] at hni; cases hni
  have hlt : i < listed.size := by rw [h.size]; exact (List.getElem?_eq_some_iff.1 hi).1
  have htr := h.looks hs hi hp
  have hag := h.pend i o hiE hni hi
  unfold again at hag
  -- what holds behind it
  have after : ∀ (v : Value) (w' : World) (L' : Nat → Loc) (x : AV), valIs T o x → VA H.length L' x v → Agree H.length [] L L' → Rel B R w0 L' H w' → Inv P nt N0 L0 B R w0 all E S T M H (listed.setIfInBounds i true) L' w' (a.put o.dst v) := by
    intro v w' L' x hx hxv hL hrel
    refine ⟨by simpa using h.size, fun j hj => ?_, fun j o' hj ho' p hp' => ?_, h.edown, fun j o' hj ho' hq' => ?_, fun j hj => ?_, fun t => ?_, h.bound, ?_, ?_, fun j o' hj hjl ho' => ?_, h.hN, ?_, hrel⟩
    · rw [getD_set hlt] at hj
      split at hj
      · rename_i e; rw [e]; exact hiE
      · exact h.sub j hj
    · rw [getD_set hlt] at hj ⊢
      split
      · rfl
      · split at hj
        · rename_i e; subst e; rw [hi] at ho'; cases ho'; exact hp p hp'
        · exact h.down j o' hj ho' p hp'
    · rw [getD_set hlt]; split
      · rfl
      · exact h.eff j o' hj ho' hq'
    · rw [getD_set hlt]; split
      · rfl
      · exact h.sure j hj
    · by_cases ht : o.dst = some t
      · right
        unfold valIs at hx
        rw [ht] at hx
        dsimp only at hx
        rw [← hx, ht]
        have htl : t < a.tmps.size := Nat.lt_of_lt_of_le (h.bound i o t hiE hi ht) h.room
        simpa [Act.put, Array.getD_eq_getD_getElem?, htl] using hxv
      · rcases h.tr t with ⟨j, oj, h1, h2, h3, h4⟩ | hv
        · left
          refine ⟨j, oj, h1, ?_, h3, h4⟩
          rw [getD_set hlt, if_neg (fun e => by subst e; rw [hi] at h3; cases h3; exact ht h4)]
          exact h2
        · right
          have : (a.put o.dst v).tmps.getD t undef = a.tmps.getD t undef := by
            cases hd : o.dst with
            | none => rfl
            | some d =>
              have hne : d ≠ t := fun e => ht (by rw [hd, e])
              simp [Act.put, Array.getElem?_setIfInBounds_ne hne]
          rw [this]
          have := hv.mono (Nat.le_refl _) hL
          rwa [killA_nil] at this
    · cases o.dst <;> exact h.defers
    · cases hd : o.dst with
      | none => exact h.room
      | some d => have := h.room; simpa [Act.put] using this
    · rw [getD_set hlt] at hjl
      split at hjl
      · cases hjl
      · exact h.pend j o' hj hjl ho'
    · have := h.hag.trans h.hN hL; rwa [List.nil_append] at this
  have hag2 := guarded_congr (all := all) (T' := (o.looksAt all.toArray).map fun t => (t, lk T t)) (k' := fun U b => match b with
      | true => aop P U H (fun v _ _ => valIs T o v) o.op
      | false => valIs T o undefA) (fun t ht => by rw [lk_looks, if_pos ht]) (fun b U U' hU hU' hh => by
    cases b with
    | true => exact op_congr (all := all) (fun t ht => by rw [hU, hU', lk_looks, if_pos ht]) hh
    | false => exact hh) hag
  obtain ⟨U, b, hU, hw, hb⟩ := guarded_wanted htr hag2
  have htU : TR H.length L nt U a := ⟨fun t => by rw [hU]; exact htr.get t, htr.defers, htr.room⟩
  have hio : (all.toArray)[i]? = some o := by simpa using hi
  unfold wpOp
  simp only [hio, hw]
  cases b with
  | false =>
    rw [if_neg (by simp)]
    exact hk _ _ L (after undef w L undefA hb ⟨[], rfl, rfl⟩ (Agree.refl _ _ _) h.rel)
  | true =>
    rw [if_pos rfl]
    left
    have hout := aop_sound h.rel htU o (quiet_aop hq hb)
    have next : ∀ v w', Left B R w0 H.length L (fun v M H' => M = [] ∧ H' = H ∧ valIs T o v) v w' → k (a.put o.dst v) w' := by
      rintro v w' ⟨L', x, M', H', h1, h2, h3, h4, rfl, rfl, h5⟩
      exact hk _ _ L' (after v w' L' x h5 h3 h1 h4)
    unfold Oper.wp
    rcases hout with ⟨v, w', hr, hleft⟩ | ⟨f, args, hr, hcall⟩
    · rcases hr with hr | ⟨hr, rfl⟩
      · rw [hr]; exact next v w' hleft
      · rw [hr]; exact next undef w' hleft
    · rw [hr]
      simp only [Oper.upon]
      refine hcall.mono ?_
      rintro e w' ⟨v, rfl, hleft⟩
      exact next v w' hleft

/-- What changes something is done. -/
theorem Inv.eff_step (hs : SSA all) (h : Inv P nt N0 L0 B R w0 all E S T M H listed L w a) {i : Nat} {o : Oper} (hi : all[i]? = some o) (hq : quiet o.op = false) (hni : listed.getD i false = false) (hp : ∀ p ∈ preds o, listed.getD p false = true)
    {D : Tm → List Nat → List PO → Prop}
    (hg : guarded all T o fun T' b => match b with
        | true => aop P T' H (fun v M' H' => killT M' T' fun T1 => putT nt T1 o.dst v fun T2 => addM M' M fun M2 => checks P all E (ahead all 1000 [i] S) T2 H' (D T2 M2 H') numbers all) o.op
        | false => putT nt T' o.dst undefA fun T2 => checks P all E (ahead all 1000 [i] S) T2 H (D T2 M H) numbers all)
    {k : Act → World → Prop} (hk : ∀ a' w' L' T' M' H', D T' M' H' → Inv P nt N0 L0 B R w0 all (i :: E) (ahead all 1000 [i] S) T' M' H' (listed.setIfInBounds i true) L' w' a' → k a' w') : wpOp P all.toArray Q i k a w := by
  have hlt : i < listed.size := by rw [h.size]; exact (List.getElem?_eq_some_iff.1 hi).1
  have htr := h.looks hs hi hp
  have hiE : i ∉ E := fun he => by rw [h.eff i o he hi hq] at hni; cases hni
  have hlen : all.length ≤ 100 := Nat.le_of_lt hs.small
  have hdown : ∀ (j : Nat) (o' : Oper), (listed.setIfInBounds i true).getD j false = true → all[j]? = some o' → ∀ p ∈ preds o', (listed.setIfInBounds i true).getD p false = true := by
    intro j o' hj ho' p hp'
    rw [getD_set hlt] at hj ⊢
    split
    · rfl
    · split at hj
      · rename_i e; subst e; rw [hi] at ho'; cases ho'; exact hp p hp'
      · exact h.down j o' hj ho' p hp'
  have hsure : ∀ j ∈ ahead all 1000 [i] S, (listed.setIfInBounds i true).getD j false = true :=
    ahead_spec (D := fun j => (listed.setIfInBounds i true).getD j false = true) hdown 1000 [i] S (fun j hj => by simp at hj; rw [hj, getD_set hlt, if_pos rfl]) (fun j hj => by
      rw [getD_set hlt]; split
      · rfl
      · exact h.sure j hj)
  have after : ∀ (v : Value) (w' : World) (L' : Nat → Loc) (x : AV) (T2 : Tm) (M1 M2 : List Nat) (H' : List PO), (∀ d0, o.dst = some d0 → d0 < nt) → (∀ t, lk T2 t = if o.dst = some t then x else killA M1 (lk T t)) → VA H'.length L' x v → Agree H.length M1 L L' → H.length ≤ H'.length →
      Rel B R w0 L' H' w' → Agree N0 M2 L0 L' → checks P all E (ahead all 1000 [i] S) T2 H' (D T2 M2 H') numbers all →
      D T2 M2 H' ∧ Inv P nt N0 L0 B R w0 all (i :: E) (ahead all 1000 [i] S) T2 M2 H' (listed.setIfInBounds i true) L' w' (a.put o.dst v) := by
    intro v w' L' x T2 M1 M2 H' hbd hT hxv hL hle hrel hag hch
    rw [numbers_eq] at hch
    obtain ⟨hD, hc⟩ := checks_spec hlen hch
    refine ⟨hD, by simpa using h.size, fun j hj => ?_, hdown, fun j o' hj ho' p hp' => ?_, fun j o' hj ho' hq' => ?_, hsure, fun t => ?_, fun j o' d hj ho' hd => ?_, ?_, ?_, fun j o' hj hjl ho' => ?_, by have := h.hN; omega, hag, hrel⟩
    · rw [getD_set hlt] at hj
      split at hj
      · rename_i e; rw [e]; simp
      · exact List.mem_cons_of_mem _ (h.sub j hj)
    · rcases List.mem_cons.1 hj with rfl | hj
      · rw [hi] at ho'; cases ho'; exact List.mem_cons_of_mem _ (h.sub p (hp p hp'))
      · exact List.mem_cons_of_mem _ (h.edown j o' hj ho' p hp')
    · rw [getD_set hlt]; split
      · rfl
      · rename_i hne
        rcases List.mem_cons.1 hj with rfl | hj
        · exact absurd rfl hne
        · exact h.eff j o' hj ho' hq'
    · by_cases ht : o.dst = some t
      · right
        rw [hT, if_pos ht, ht]
        have htl : t < a.tmps.size := Nat.lt_of_lt_of_le (hbd t ht) h.room
        simpa [Act.put, Array.getD_eq_getD_getElem?, htl] using hxv
      · rcases h.tr t with ⟨j, oj, h1, h2, h3, h4⟩ | hv
        · left
          refine ⟨j, oj, List.mem_cons_of_mem _ h1, ?_, h3, h4⟩
          rw [getD_set hlt, if_neg (show ¬ j = i from fun e => hiE (by rw [← e]; exact h1))]
          exact h2
        · right
          have : (a.put o.dst v).tmps.getD t undef = a.tmps.getD t undef := by
            cases hd : o.dst with
            | none => rfl
            | some d =>
              have hne : d ≠ t := fun e => ht (by rw [hd, e])
              simp [Act.put, Array.getElem?_setIfInBounds_ne hne]
          rw [this, hT, if_neg ht]
          exact hv.mono hle hL
    · rcases List.mem_cons.1 hj with rfl | hj
      · rw [hi] at ho'; cases ho'; exact hbd d hd
      · exact h.bound j o' d hj ho' hd
    · cases o.dst <;> exact h.defers
    · cases hd : o.dst with
      | none => exact h.room
      | some d => have := h.room; simpa [Act.put] using this
    · have hjl' := hjl
      rw [getD_set hlt] at hjl
      split at hjl
      · cases hjl
      · rename_i hne
        rcases List.mem_cons.1 hj with rfl | hj
        · exact absurd rfl hne
        · have hqj : quiet o'.op = true := by
            cases hqj : quiet o'.op with
            | true => rfl
            | false => rw [h.eff j o' hj ho' hqj] at hjl; cases hjl
          have := hc j o' ho' hqj (by simpa using hj) (fun hS => by rw [Nat.zero_add] at hS; rw [hsure j hS] at hjl'; cases hjl')
          exact this
  obtain ⟨U0, b0, hU0, hk0, hall⟩ := guarded_det hg
  -- the same, with the operands alone
  have hg2 := guarded_congr (all := all) (T' := (o.looksAt all.toArray).map fun t => (t, lk T t)) (k' := fun U b => b = b0) (fun t ht => by rw [lk_looks, if_pos ht]) (fun b U U' hU hU' hh => hh) (hall (fun U b => b = b0) rfl)
  obtain ⟨U, b, hU, hw, rfl⟩ := guarded_wanted htr hg2
  have hio : (all.toArray)[i]? = some o := by simpa using hi
  unfold wpOp
  simp only [hio, hw]
  cases b with
  | false =>
    rw [if_neg (by simp)]
    obtain ⟨T2, hc, hT, hbd⟩ := putT_at hk0
    obtain ⟨hD, hI⟩ := after undef w L undefA T2 [] M H hbd (fun t => by rw [hT, hU0, killA_nil]) ⟨[], rfl, rfl⟩ (Agree.refl _ _ _) (Nat.le_refl _) h.rel h.hag hc
    exact hk _ _ L T2 M H hD hI
  | true =>
    rw [if_pos rfl]
    left
    have haop := op_congr (all := all) (T := (o.looksAt all.toArray).map fun t => (t, lk T t)) (fun t ht => by rw [hU0, lk_looks, if_pos ht]) hk0
    have hout := aop_sound h.rel htr o haop
    have next : ∀ v w', Left B R w0 H.length L (fun v M' H' => killT M' U0 fun T1 => putT nt T1 o.dst v fun T2 => addM M' M fun M2 => checks P all E (ahead all 1000 [i] S) T2 H' (D T2 M2 H') numbers all) v w' → k (a.put o.dst v) w' := by
      rintro v w' ⟨L', x, M', H', h1, h2, h3, h4, h5⟩
      obtain ⟨T1, h5, hT1⟩ := killT_at h5
      obtain ⟨T2, h5, hT2, hbd⟩ := putT_at h5
      rw [addM_eq] at h5
      obtain ⟨hD, hI⟩ := after v w' L' x T2 M' (M' ++ M) H' hbd (fun t => by rw [hT2, hT1, hU0]) h3 h1 h2 h4 (h.hag.trans h.hN h1) h5
      exact hk _ _ L' T2 _ H' hD hI
    unfold Oper.wp
    rcases hout with ⟨v, w', hr, hleft⟩ | ⟨f, args, hr, hcall⟩
    · rcases hr with hr | ⟨hr, rfl⟩
      · rw [hr]; exact next v w' hleft
      · rw [hr]; exact next undef w' hleft
    · rw [hr]
      simp only [Oper.upon]
      refine hcall.mono ?_
      rintro e w' ⟨v, rfl, hleft⟩
      exact next v w' hleft

theorem effs_mem {E : List Nat} : ∀ {os : List Oper} {m s i : Nat} {o : Oper}, (i, o) ∈ effs E (List.range' s m) os → i ∉ E ∧ s ≤ i ∧ i - s < os.length
  | [], m, s, i, o, h => by cases m <;> simp [effs, List.range'_succ] at h
  | x :: os, 0, s, i, o, h => by simp [effs] at h
  | x :: os, m + 1, s, i, o, h => by
    simp only [List.range'_succ, effs, cond_eq_ite] at h
    split at h
    · rename_i hc
      rcases List.mem_cons.1 h with hh | hh
      · cases hh
        simp only [Bool.and_eq_true, Bool.not_eq_true'] at hc
        exact ⟨has_false hc.1.2, Nat.le_refl _, by simp⟩
      · obtain ⟨h1, h2, h3⟩ := effs_mem hh
        exact ⟨h1, by omega, by simp; omega⟩
    · obtain ⟨h1, h2, h3⟩ := effs_mem h
      exact ⟨h1, by omega, by simp; omega⟩

theorem Inv.done (hs : SSA all) (h : Inv P nt N0 L0 B R w0 all E S T M H listed L w a) (hr : Region.ready .any all.toArray listed = []) : (∀ i, i < all.length → listed.getD i false = true) ∧ effs E numbers all = [] ∧ TR H.length L nt T a := by
  have hall : ∀ i, i < all.length → listed.getD i false = true := by
    intro i
    induction i using Nat.strongRecOn with
    | _ i ih =>
      intro hi
      cases hl : listed.getD i false with
      | true => rfl
      | false =>
        have hil : i < listed.size := by rw [h.size]; exact hi
        have ho : all[i]? = some all[i] := by simp [hi]
        have : i ∈ Region.ready .any all.toArray listed := mem_ready.2 ⟨by simpa [hil] using hl, all[i], by simp, fun e he hb => by
          have hp := hs.back i _ ho e.on (mem_preds.2 ⟨e, he, hb, rfl⟩)
          exact ih e.on hp (by omega)⟩
        rw [hr] at this; cases this
  refine ⟨hall, ?_, fun t => ?_, h.defers, h.room⟩
  · cases he : effs E numbers all with
    | nil => rfl
    | cons x xs =>
      obtain ⟨i, o⟩ := x
      have : (i, o) ∈ effs E (List.range' 0 100) all := by rw [← numbers_eq, he]; simp
      obtain ⟨h1, _, h3⟩ := effs_mem this
      exact absurd (h.sub i (hall i h3)) h1
  · rcases h.tr t with ⟨j, oj, h1, h2, h3, _⟩ | hv
    · rw [hall j (List.getElem?_eq_some_iff.1 h3).1] at h2; cases h2
    · exact hv

theorem drawn_sound (hs : SSA all) (hQ : ∀ L' T' M' H' w' a', N0 ≤ H'.length → Agree N0 M' L0 L' → Rel B R w0 L' H' w' → TR H'.length L' nt T' a' → K T' M' H' → Q .normal a' w') :
    ∀ (fuel : Nat) (E S : List Nat) (T : Tm) (M : List Nat) (H : List PO), drawn P nt all fuel E S T M H K → ∀ (m : Nat) (listed : Array Bool) (L : Nat → Loc) (w : World) (a : Act), listed.toList.count false = m →
      Inv P nt N0 L0 B R w0 all E S T M H listed L w a → wpAny P .any all.toArray Q m listed a w := by
  have hlen : all.length ≤ 100 := Nat.le_of_lt hs.small
  intro fuel
  induction fuel with
  | zero => intro E S T M H h; exact h.elim
  | succ fuel ih =>
    intro E S T M H h
    simp only [drawn] at h
    split at h
    · rename_i i o hnx
      rw [numbers_eq] at hnx
      obtain ⟨_, hi, hq, hn, hp⟩ := nextQ_spec hnx
      simp only [Nat.sub_zero] at hi
      intro m listed L w a hm hI
      obtain ⟨T', hd, hI'⟩ := hI.extend hs hi hq hn hp h
      exact ih _ _ _ _ _ hd m listed L w a hm hI'
    · rename_i hnx
      rw [numbers_eq] at hnx
      have hclosed := nextQ_none hlen hnx
      simp only [Nat.zero_add] at hclosed
      intro m
      induction m with
      | zero =>
        intro listed L w a hm hI
        have hready : Region.ready .any all.toArray listed = [] := by
          cases hr : Region.ready .any all.toArray listed with
          | nil => rfl
          | cons j js =>
            have hj : j ∈ Region.ready .any all.toArray listed := by rw [hr]; simp
            obtain ⟨h0, o, ho, _⟩ := mem_ready.1 hj
            have hjl : j < listed.size := by rw [hI.size]; simpa using (Array.getElem?_eq_some_iff.1 ho).1
            have : listed.toList[j]? = some false := by simpa [hjl] using h0
            have := List.count_pos_iff.2 (List.mem_of_getElem? this)
            omega
        refine ⟨hready, ?_⟩
        obtain ⟨_, he, ht⟩ := hI.done hs hready
        rw [he] at h
        simp only [cond_eq_ite] at h
        split at h
        · exact hQ L T M H w a hI.hN hI.hag hI.rel ht h
        · exact h.elim
      | succ m ihm =>
        intro listed L w a hm hI
        refine ⟨fun hready => ?_, fun i hi => ?_⟩
        · obtain ⟨_, he, ht⟩ := hI.done hs hready
          rw [he] at h
          simp only [cond_eq_ite] at h
          split at h
          · exact hQ L T M H w a hI.hN hI.hag hI.rel ht h
          · exact h.elim
        · obtain ⟨h0, o, ho, hedge⟩ := mem_ready.1 hi
          have hio : all[i]? = some o := by simpa using ho
          have hil : i < listed.size := by rw [hI.size]; exact (List.getElem?_eq_some_iff.1 hio).1
          have hni : listed.getD i false = false := by simpa [hil] using h0
          have hp : ∀ p ∈ preds o, listed.getD p false = true := fun p hp => by
            obtain ⟨e, he, hb, rfl⟩ := mem_preds.1 hp
            exact hedge e he hb
          have hcnt : (listed.setIfInBounds i true).toList.count false = m := by
            have := count_set (l := listed.toList) (i := i) (by simpa [hil] using h0)
            simp only [Array.toList_setIfInBounds]
            omega
          cases hq : quiet o.op with
          | true =>
            exact hI.quiet_step hs hio (hclosed i o hio hq fun p hp' => hI.sub p (hp p hp')) hni hp fun a' w' L' hI' => ihm _ L' w' a' hcnt hI'
          | false =>
            have hiE : i ∉ E := fun he => by rw [hI.eff i o he hio hq] at hni; cases hni
            have hmem := effs_spec (E := E) (s := 0) hlen i o hio hq (by simpa using hiE) fun p hp' => hI.sub p (hp p hp')
            rw [← numbers_eq, Nat.zero_add] at hmem
            split at h
            · rename_i he; rw [he] at hmem; cases hmem
            · have hb := allR_spec h _ hmem
              exact hI.eff_step hs hio hq hni hp hb fun a' w' L' T' M' H' hD hI' => ih _ _ _ _ _ hD m _ L' w' a' hcnt hI'

end

/-- A REGION WHOSE ORDER IS OPEN. -/
theorem SS.draw {nt N0 : Nat} {id : Nat} {ops : Array Oper} {T : Tm} {M : List Nat} {H : List PO} {Q : Ex → Tm → List Nat → List PO → Prop} (hf : P.follows .mixedOrders = true) (hs : ssa ops.toList = true)
    (h : drawn P nt ops.toList 400 [] [] T M H fun T' M' H' => Q .normal T' M' H') : SS P nt N0 (.region id ops true) T M H Q := by
  refine ⟨fun B R w0 L0 L w a R0 h1 h2 h3 h4 h5 => wp_region_any hf ?_⟩
  have hc : (Array.replicate ops.size false).toList.count false = ops.size := by simp
  have := drawn_sound (P := P) (B := B) (R := R) (w0 := w0) (nt := nt) (N0 := N0) (L0 := L0) (Q := R0) (ssa_spec hs) (fun L' T' M' H' w' a' k1 k2 k3 k4 k5 => h5 .normal L' T' M' H' w' a' k1 k2 k3 k4 k5) 400 [] [] T M H h
    ops.size (Array.replicate ops.size false) L { w with drawn := w.drawn + 1 } a hc
  have hop : ops.toList.toArray = ops := by simp
  rw [hop] at this
  refine this ?_
  have hno : ∀ i, (Array.replicate ops.size false).getD i false = false := fun i => by
    simp only [Array.getD_eq_getD_getElem?, Array.getElem?_replicate]
    split <;> rfl
  exact ⟨(by simp), fun i hi => (by rw [hno] at hi; cases hi), fun i o hi => (by rw [hno] at hi; cases hi), fun i o hi => (by simp at hi), fun i o hi => (by simp at hi), fun i hi => (by simp at hi), fun t => .inr (h4.get t), fun i o d hi => (by simp at hi),
    h4.defers, h4.room, fun i o hi => (by simp at hi), h1, h2, h3.drew⟩

end
end Go.Mac
end

/- The machine of abstract values, part 8b: the same, unfolded alike by whoever computes and by whoever checks: recursion by recursors. -/
section
namespace Go.Mac
open Go

abbrev KT := Tm → List Nat → List PO → Prop

def opR (P : Program) (nt : Nat) (all : List Oper) (o : Oper) (ih : Tm → List Nat → List PO → KT → Prop) (T : Tm) (M : List Nat) (H : List PO) (K : KT) : Prop :=
  match o.guard with
  | none => aopX P T H (fun v M' H' => killT M' T fun T' => putT nt T' o.dst v fun T'' => addM M' M fun M'' => ih T'' M'' H' K) o.op
  | some (j, want) =>
    match (nth all j).bind (·.dst) with
    | some d =>
      match lk T d with
      | .p (.c (.f (.bool b))) =>
        brc b
          (match want with
            | true => aopX P ((d, bl true) :: T) H (fun v M' H' => killT M' ((d, bl true) :: T) fun T' => putT nt T' o.dst v fun T'' => addM M' M fun M'' => ih T'' M'' H' K) o.op
            | false => putT nt ((d, bl true) :: T) o.dst undefA fun T'' => ih T'' M H K)
          (match want with
            | false => aopX P ((d, bl false) :: T) H (fun v M' H' => killT M' ((d, bl false) :: T) fun T' => putT nt T' o.dst v fun T'' => addM M' M fun M'' => ih T'' M'' H' K) o.op
            | true => putT nt ((d, bl false) :: T) o.dst undefA fun T'' => ih T'' M H K)
      | .tup [] => putT nt T o.dst undefA fun T'' => ih T'' M H K
      | _ => False
    | none => False

noncomputable def opsR (P : Program) (nt : Nat) (all : List Oper) (ops : List Oper) : Tm → List Nat → List PO → KT → Prop :=
  @List.rec Oper (fun _ => Tm → List Nat → List PO → KT → Prop) (fun T M H K => K T M H) (fun o _ ih => opR P nt all o ih) ops

theorem opsR_eq (P : Program) (nt : Nat) (all : List Oper) : ∀ (ops : List Oper), opsR P nt all ops = runOps P nt all ops
  | [] => rfl
  | o :: rest => by
    have ih := opsR_eq P nt all rest
    funext T M H K
    show opR P nt all o (opsR P nt all rest) T M H K = _
    rw [ih]
    rfl

abbrev QT := Ex → Tm → List Nat → List PO → Prop
abbrev CT := Tm → List Nat → List PO → QT → Prop

def regionR (P : Program) (nt N0 : Nat) (id : Nat) (ops : Array Oper) (draw : Bool) : CT := fun T M H Q =>
  match draw with
  | false => opsR P nt ops.toList ops.toList T M H fun T' M' H' => Q .normal T' M' H'
  | true => SS P nt N0 (.region id ops true) T M H Q

def seqR (P : Program) (nt N0 : Nat) (a b : Code) (ia ib : CT) : CT := fun T M H Q =>
  match joins a with
  | false => ia T M H fun e T' M' H' => match e with
    | .normal => ib T' M' H' Q
    | e => Q e T' M' H'
  | true => SS P nt N0 (.seq a b) T M H Q

def condR (c : Operand) (ia ib : CT) : CT := fun T M H Q =>
  match ev T c with
  | .p (.c (.f (.bool t))) => brc t (ia (setC c true T) M H Q) (ib (setC c false T) M H Q)
  | _ => False

def blockR (id : Nat) (ic : CT) : CT := fun T M H Q =>
  ic T M H fun e T' M' H' => match e with
    | .exit j => match Nat.beq j id with
      | true => Q .normal T' M' H'
      | false => Q (.exit j) T' M' H'
    | e => Q e T' M' H'

noncomputable def SR (P : Program) (nt N0 : Nat) (c : Code) : CT :=
  @Code.rec (fun _ => CT) (fun T M H Q => Q .normal T M H) (fun id ops draw => regionR P nt N0 id ops draw) (fun a b ia ib => seqR P nt N0 a b ia ib) (fun c _ _ ia ib => condR c ia ib) (fun id _ ic => blockR id ic)
    (fun c _ => fun T M H Q => SS P nt N0 (.loop c) T M H Q) (fun _ _ _ _ _ _ => fun _ _ _ _ => False) (fun id => fun T M H Q => Q (.exit id) T M H) (fun _ _ => fun _ _ _ _ => False) (fun _ => fun T M H Q => Q .normal T M H)
    (fun _ => fun _ _ _ _ => False) (fun T M H Q => Q .ret T M H) (fun _ => fun _ _ _ _ => False) c

theorem SR_eq (P : Program) (nt N0 : Nat) : ∀ (c : Code), SR P nt N0 c = S P nt N0 c
  | .skip => rfl
  | .region id ops draw => by
    funext T M H Q
    show regionR P nt N0 id ops draw T M H Q = _
    unfold regionR S
    rw [opsR_eq]
    cases draw <;> rfl
  | .seq a b => by
    funext T M H Q
    show seqR P nt N0 a b (SR P nt N0 a) (SR P nt N0 b) T M H Q = _
    rw [SR_eq P nt N0 a, SR_eq P nt N0 b]
    conv => rhs; unfold S
    unfold seqR
    rfl
  | .cond c a b => by
    funext T M H Q
    show condR c (SR P nt N0 a) (SR P nt N0 b) T M H Q = _
    rw [SR_eq P nt N0 a, SR_eq P nt N0 b]
    conv => rhs; unfold S
    unfold condR
    rfl
  | .block id c => by
    funext T M H Q
    show blockR id (SR P nt N0 c) T M H Q = _
    rw [SR_eq P nt N0 c]
    conv => rhs; unfold S
    unfold blockR
    rfl
  | .loop c => rfl
  | .rangeFunc _ _ _ _ => rfl
  | .exit _ => rfl
  | .scope _ => rfl
  | .label _ => rfl
  | .goto _ => rfl
  | .ret => rfl
  | .refuse _ => rfl

/-- A function's body. -/
def FnR (P : Program) (fn : Func) (c : Code) (args : List AV) (H : List PO) (K : AV → List Nat → List PO → Prop) : Prop :=
  lenK H numbers fun N0 => startK args numbers fun T => SR P fn.ntmps N0 c T [] H fun e T' M' H' =>
    match e with
    | .exit _ => False
    | _ => resK P T' H' fn.results.toList fun vs => tupA vs fun v => endK N0 v M' H' K

theorem does {P : Program} {f : FuncId} {fn : Func} {c : Code} {args : List AV} {H : List PO} {K : AV → List Nat → List PO → Prop} (hf : P.funcs[f]? = some fn) (hc : fn.body = some c) (hn : fn.name ≠ "runtime.NumGoroutine")
    (h : FnR P fn c args H K) : Does P f args H K := by
  refine does_of hf hc hn ?_
  unfold FnR at h
  simp only [SR_eq] at h
  exact h

theorem S_r {P : Program} {nt N0 : Nat} {c : Code} {T : Tm} {M : List Nat} {H : List PO} {Q : QT} (h : SR P nt N0 c T M H Q) : SS P nt N0 c T M H Q := by
  rw [SR_eq] at h
  exact S_ok _ _ _ _ _ h

theorem SS.inlR {P : Program} {nt N0 : Nat} {x y : Code} {T : Tm} {M : List Nat} {H : List PO} {Q : QT} (h : SR P nt N0 x T M H fun e T' M' H' => match e with
      | .normal => SR P nt N0 y T' M' H' Q
      | e => Q e T' M' H') : SS P nt N0 (.seq x y) T M H Q := by
  refine SS.inl ?_
  rw [SR_eq, SR_eq] at h
  exact h

/-! ### Regions whose order is open -/

abbrev DT := List Nat → List Nat → Tm → List Nat → List PO → KT → Prop

def checkR (P : Program) (all : List Oper) (E S : List Nat) (T : Tm) (H : List PO) (k : Prop) (i : Nat) (ih : List Oper → Prop) (os : List Oper) : Prop :=
  match os with
  | o :: os => bif quiet o.op && has E i && !has S i then again P all T H o ∧ ih os else ih os
  | [] => k

noncomputable def checksR (P : Program) (all : List Oper) (E S : List Nat) (T : Tm) (H : List PO) (k : Prop) (is : List Nat) : List Oper → Prop :=
  @List.rec Nat (fun _ => List Oper → Prop) (fun _ => k) (fun i _ ih => checkR P all E S T H k i ih) is

theorem checksR_eq (P : Program) (all : List Oper) (E S : List Nat) (T : Tm) (H : List PO) (k : Prop) : ∀ (is : List Nat) (os : List Oper), checksR P all E S T H k is os = checks P all E S T H k is os
  | [], os => by cases os <;> rfl
  | i :: is, [] => rfl
  | i :: is, o :: os => by
    show checkR P all E S T H k i (checksR P all E S T H k is) (o :: os) = _
    rw [funext (checksR_eq P all E S T H k is)]
    rfl

def drawStep (P : Program) (nt : Nat) (all : List Oper) (ih : DT) : DT := fun E S T M H K =>
    match nextQ E numbers all with
    | some (i, o) => guarded all T o fun T' b =>
      match b with
      | true => aop P T' H (fun v _ _ => putT nt T' o.dst v fun T'' => ih (i :: E) S T'' M H K) o.op
      | false => putT nt T' o.dst undefA fun T'' => ih (i :: E) S T'' M H K
    | none =>
      match effs E numbers all with
      | [] => bif hasAll E (numbers.take all.length) then K T M H else False
      | R => allR (fun (x : Nat × Oper) => guarded all T x.2 fun T' b =>
        match b with
        | true => aop P T' H (fun v M' H' => killT M' T' fun T1 => putT nt T1 x.2.dst v fun T2 => addM M' M fun M2 =>
            checksR P all E (ahead all 1000 [x.1] S) T2 H' (ih (x.1 :: E) (ahead all 1000 [x.1] S) T2 M2 H' K) numbers all) x.2.op
        | false => putT nt T' x.2.dst undefA fun T2 =>
            checksR P all E (ahead all 1000 [x.1] S) T2 H (ih (x.1 :: E) (ahead all 1000 [x.1] S) T2 M H K) numbers all) R

noncomputable def drawnR (P : Program) (nt : Nat) (all : List Oper) (n : Nat) : DT :=
  @Nat.rec (fun _ => DT) (fun _ _ _ _ _ _ => False) (fun _ ih => drawStep P nt all ih) n

theorem drawnR_eq (P : Program) (nt : Nat) (all : List Oper) : ∀ (n : Nat), drawnR P nt all n = drawn P nt all n
  | 0 => by funext E S T M H K; rfl
  | n + 1 => by
    have ih := drawnR_eq P nt all n
    funext E S T M H K
    show drawStep P nt all (drawnR P nt all n) E S T M H K = _
    rw [ih]
    unfold drawStep
    simp only [checksR_eq]
    rfl

theorem SS.drawR {P : Program} {nt N0 : Nat} {id : Nat} {ops : Array Oper} {T : Tm} {M : List Nat} {H : List PO} {Q : QT} (hf : P.follows .mixedOrders = true) (hs : ssa ops.toList = true)
    (h : drawnR P nt ops.toList 400 [] [] T M H fun T' M' H' => Q .normal T' M' H') : SS P nt N0 (.region id ops true) T M H Q :=
  SS.draw hf hs (by rw [drawnR_eq] at h; exact h)

/-! ### Calls over parts of the heap, their side conditions by themselves -/

section
variable {P : Program} {H : List PO} {f : FuncId} {args : List AV} {K : AV → List Nat → List PO → Prop}

/-- A call that is handed nothing of the heap. -/
theorem Does.alone (m : Nat) (h : Does P f args [] fun x M Hl' => mapM (gmap [] m) M fun Mg => killHK Mg H fun H0 => setAllK (gmap [] m) H0 [] Hl' fun H' => renAK (gmap [] m) x fun y => K y Mg H')
    (hm : H.length = m := by rfl) (hla : lowAs 0 args = true := by rfl) (ha : args = args.map (renA (gmap [] m)) := by rfl) : Does P f args H K :=
  Does.frame m [] [] args h hm (by simp) (by simp) rfl rfl hla rfl ha

/-- A call that is handed the objects ids. -/
theorem Does.on (m : Nat) (ids : List Nat) (Hl : List PO) (argsl : List AV) (h : Does P f argsl Hl fun x M Hl' => mapM (gmap ids m) M fun Mg => killHK Mg H fun H0 => setAllK (gmap ids m) H0 ids Hl' fun H' => renAK (gmap ids m) x fun y => K y Mg H')
    (hm : H.length = m := by rfl) (hn : ids.Nodup := by decide) (hlt : ∀ i ∈ ids, i < m := by decide) (hl : Hl.length = ids.length := by rfl) (hlo : lowH ids.length Hl = true := by rfl) (hla : lowAs ids.length argsl = true := by rfl)
    (hH : (ids.map fun i => H[i]?) = Hl.map fun o => some (renO (gmap ids m) o) := by rfl) (ha : args = argsl.map (renA (gmap ids m)) := by rfl) : Does P f args H K :=
  Does.frame m ids Hl argsl h hm hn hlt hl hlo hla hH ha
end

/-! ### Numbers as they stand in words -/

theorem wrap_i64 (n : Int) (h0 : -9223372036854775808 ≤ n) (h1 : n ≤ 9223372036854775807) : IntKind.i64.wrap n = n := by
  simp only [IntKind.wrap, IntKind.bits, IntKind.signed]
  simp
  omega

theorem wrap_u64 (n : Int) (h0 : 0 ≤ n) (h1 : n < 18446744073709551616) : IntKind.u64.wrap n = n := by
  simp only [IntKind.wrap, IntKind.bits, IntKind.signed]
  simp
  omega

theorem wf_i64 {n : Int} (h : (Lit.int .i64 n).wf = true) : -9223372036854775808 ≤ n ∧ n ≤ 9223372036854775807 := by
  simp [Lit.wf, IntKind.min, IntKind.max, IntKind.signed, IntKind.bits] at h
  omega

theorem wf_u64 {n : Int} (h : (Lit.int .u64 n).wf = true) : 0 ≤ n ∧ n < 18446744073709551616 := by
  simp [Lit.wf, IntKind.min, IntKind.max, IntKind.signed, IntKind.bits] at h
  omega


/-! ### What is handed on, in other words -/

theorem eqb {K : Bool → Prop} {a b : Bool} (h : K a) (e : a = b) : K b := e ▸ h
theorem eqz {K : Int → Prop} {a b : Int} (h : K a) (e : a = b) : K b := e ▸ h
theorem eqx {α : Type} {K : α → Prop} {a b : α} (h : K a) (e : a = b) : K b := e ▸ h

/-- A slice that is nil is one of no elements, of an object of its own. -/
theorem SS.nil {P : Program} {nt N0 : Nat} {c : Code} {T : Tm} {M : List Nat} {H : List PO} {Q : QT} (d sz : Nat) (hsz : 0 < sz) (hd : lk T d = cv .nilslc)
    (h : SS P nt N0 c ((d, cv (.slc H.length 0 0 none false)) :: T) M (H ++ [.rows false sz []]) Q) : SS P nt N0 c T M H Q := by
  refine ⟨fun B R w0 L0 L w a R0 h1 h2 h3 h4 h5 => ?_⟩
  obtain ⟨g1, g2⟩ := none_sound h3 sz hsz
  refine h.run B R w0 L0 _ w a R0 (by simp; omega) ?_ g2 ⟨fun i => ?_, h4.defers, h4.room⟩ h5
  · intro i hi hm
    rw [upd_ne (by omega)]
    exact h2 i hi hm
  · rw [lk_cons]
    split
    · rename_i e
      subst e
      have := h4.get d
      rw [hd] at this
      have hv : a.tmps.getD d undef = .slice none 0 0 := this
      exact ⟨by simp, .inl ⟨rfl, rfl, hv, fun c' hc' => by cases hc'⟩⟩
    · have := (h4.get i).mono (M := []) (N' := (H ++ [PO.rows false sz []]).length) (by simp) g1
      rwa [killA_nil] at this

/-- A call that is handed a nil slice: as one that is handed no elements of an object of its own. -/
theorem Does.nilArg {P : Program} {f : FuncId} {args : List AV} {H : List PO} {K : AV → List Nat → List PO → Prop} (sz : Nat) (hsz : 0 < sz) (h : Does P f (cv (.slc H.length 0 0 none false) :: args) (H ++ [.rows false sz []]) K) :
    Does P f (cv .nilslc :: args) H K := by
  refine ⟨h.fn, fun B R w0 L w vs hrel hvs => ?_⟩
  obtain ⟨v, us, rfl, hv, hus⟩ := hvs
  obtain ⟨g1, g2⟩ := none_sound hrel sz hsz
  obtain rfl : v = .slice none 0 0 := hv
  refine (h.run B R w0 _ w (.slice none 0 0 :: us) g2 ⟨_, _, rfl, ⟨by simp, .inl ⟨rfl, rfl, rfl, fun c' hc' => by cases hc'⟩⟩, ?_⟩).mono ?_
  · clear h
    induction args generalizing us with
    | nil => exact hus
    | cons x xs ih =>
      obtain ⟨y, ys, h1, h2, h3⟩ := hus
      refine ⟨y, ys, h1, ?_, ih _ h3⟩
      have := h2.mono (M := []) (N' := (H ++ [PO.rows false sz []]).length) (by simp) g1
      rwa [killA_nil] at this
  · rintro e w' ⟨u, he, L', x, M, H', k1, k2, k3, k4, k5⟩
    refine ⟨u, he, L', x, M, H', fun i hi hm => ?_, ?_, k3, k4, k5⟩
    · rw [k1 i (by simp; omega) hm, upd_ne (by omega)]
    · simp at k2; omega

/-- Less is said of a box's cells. -/
theorem Rel.weaken {B R : Nat → Prop} {w0 : World} {L : Nat → Loc} {H : List PO} {w : World} (h : Rel B R w0 L H w) {i : Nat} {cs cs' : List CV} (hi : H[i]? = some (.one cs)) (hl : cs'.length = cs.length)
    (hv : ∀ (f : Nat) (x' : CV), cs'[f]? = some x' → ∃ x, cs[f]? = some x ∧ ∀ v, VC H.length L x v → VC H.length L x' v) : Rel B R w0 L (H.set i (.one cs')) w := by
  have hlt := (List.getElem?_eq_some_iff.1 hi).1
  have hback : ∀ (j : Nat) (o : PO), (H.set i (.one cs'))[j]? = some o → ∃ o0, H[j]? = some o0 ∧ (∀ b, Own o (L j) b → Own o0 (L j) b) ∧ (∀ b, Ro o (L j) b → Ro o0 (L j) b) ∧ (j ≠ i → o = o0) := fun j o hj => by
    by_cases hji : j = i
    · subst hji
      rw [List.getElem?_set_self hlt] at hj
      obtain rfl := Option.some.inj hj
      exact ⟨_, hi, fun b hb => hb, fun b hb => hb, fun hh => absurd rfl hh⟩
    · rw [List.getElem?_set_ne (Ne.symm hji)] at hj
      exact ⟨o, hj, fun _ hb => hb, fun _ hb => hb, fun _ => rfl⟩
  refine ⟨h.below, h.start, fun j o hj => ?_, fun j o b hj hb => ?_, fun j o b hj hb => ?_, h.sub⟩
  · rw [List.length_set]
    by_cases hji : j = i
    · subst hji
      rw [List.getElem?_set_self hlt] at hj
      obtain rfl := Option.some.inj hj
      obtain ⟨h1, h2, h3, h4, h5⟩ := h.obj j _ hi
      refine ⟨h1, by rw [hl]; exact h2, by rw [hl]; exact h3, by rw [hl]; exact h4, fun f x' hx' => ?_⟩
      obtain ⟨x, hx, hvx⟩ := hv f x' hx'
      obtain ⟨v, hv1, hv2⟩ := h5 f x hx
      exact ⟨v, hv1, hvx v hv2⟩
    · obtain ⟨o0, h0, _, _, he⟩ := hback j o hj
      rw [he hji]
      exact h.obj j o0 h0
  · obtain ⟨o0, h0, ho, _, _⟩ := hback j o hj
    obtain ⟨k1, k2, k3⟩ := h.own j o0 b h0 (ho b hb)
    refine ⟨k1, k2, fun k o' hk hb' => ?_⟩
    obtain ⟨o1, h1, ho1, _, _⟩ := hback k o' hk
    exact k3 k o1 h1 (ho1 b hb')
  · obtain ⟨o0, h0, _, hro, _⟩ := hback j o hj
    exact h.ro j o0 b h0 (hro b hb)

/-- A nil slice in a box is one of no elements, of an object of its own. -/
theorem SS.nilH {P : Program} {nt N0 : Nat} {c : Code} {T : Tm} {M : List Nat} {H : List PO} {Q : QT} (i f sz : Nat) (hsz : 0 < sz) {cs : List CV} (hi : H[i]? = some (.one cs)) (hf : cs[f]? = some .nilslc)
    (h : SS P nt N0 c T M ((H ++ [PO.rows false sz []]).set i (PO.one (cs.set f (CV.slc H.length 0 0 none false)))) Q) : SS P nt N0 c T M H Q := by
  refine ⟨fun B R w0 L0 L w a R0 h1 h2 h3 h4 h5 => ?_⟩
  obtain ⟨g1, g2⟩ := none_sound h3 sz hsz
  have hlt := (List.getElem?_eq_some_iff.1 hi).1
  have g3 := g2.weaken (i := i) (cs := cs) (cs' := cs.set f (.slc H.length 0 0 none false)) (by rw [List.getElem?_append_left hlt]; exact hi) (by simp) fun g x' hx' => by
    by_cases hg : f = g
    · subst hg
      rw [List.getElem?_set_self (List.getElem?_eq_some_iff.1 hf).1] at hx'
      obtain rfl := Option.some.inj hx'
      exact ⟨_, hf, fun v hv => ⟨by simp, .inl ⟨rfl, rfl, hv, fun c' hc' => by cases hc'⟩⟩⟩
    · rw [List.getElem?_set_ne hg] at hx'
      exact ⟨x', hx', fun _ hv => hv⟩
  refine h.run B R w0 L0 _ w a R0 (by simp; omega) ?_ g3 ⟨fun j => ?_, h4.defers, h4.room⟩ h5
  · intro j hj hm
    rw [upd_ne (by omega)]
    exact h2 j hj hm
  · have := (h4.get j).mono (M := []) (N' := (H ++ [PO.rows false sz []]).length) (by simp) g1
    rw [killA_nil] at this
    simpa using this

theorem SS.nil2 {P : Program} {nt N0 : Nat} {c : Code} {T : Tm} {M : List Nat} {H : List PO} {Q : QT} (d sz : Nat) (hd : lk T d = cv .nilslc)
    (h : SS P nt N0 c ((d, cv (.slc H.length 0 0 none false)) :: T) M (H ++ [.rows2 false sz []]) Q) : SS P nt N0 c T M H Q := by
  refine ⟨fun B R w0 L0 L w a R0 h1 h2 h3 h4 h5 => ?_⟩
  obtain ⟨g1, g2⟩ := none2_sound h3 sz
  refine h.run B R w0 L0 _ w a R0 (by simp; omega) ?_ g2 ⟨fun i => ?_, h4.defers, h4.room⟩ h5
  · intro i hi hm
    rw [upd_ne (by omega)]
    exact h2 i hi hm
  · rw [lk_cons]
    split
    · rename_i e
      subst e
      have := h4.get d
      rw [hd] at this
      have hv : a.tmps.getD d undef = .slice none 0 0 := this
      exact ⟨by simp, .inl ⟨rfl, rfl, hv, fun c' hc' => by cases hc'⟩⟩
    · have := (h4.get i).mono (M := []) (N' := (H ++ [PO.rows2 false sz []]).length) (by simp) g1
      rwa [killA_nil] at this

theorem SS.nilH2 {P : Program} {nt N0 : Nat} {c : Code} {T : Tm} {M : List Nat} {H : List PO} {Q : QT} (i f sz : Nat) {cs : List CV} (hi : H[i]? = some (.one cs)) (hf : cs[f]? = some .nilslc)
    (h : SS P nt N0 c T M ((H ++ [PO.rows2 false sz []]).set i (PO.one (cs.set f (CV.slc H.length 0 0 none false)))) Q) : SS P nt N0 c T M H Q := by
  refine ⟨fun B R w0 L0 L w a R0 h1 h2 h3 h4 h5 => ?_⟩
  obtain ⟨g1, g2⟩ := none2_sound h3 sz
  have hlt := (List.getElem?_eq_some_iff.1 hi).1
  have g3 := g2.weaken (i := i) (cs := cs) (cs' := cs.set f (.slc H.length 0 0 none false)) (by rw [List.getElem?_append_left hlt]; exact hi) (by simp) fun g x' hx' => by
    by_cases hg : f = g
    · subst hg
      rw [List.getElem?_set_self (List.getElem?_eq_some_iff.1 hf).1] at hx'
      obtain rfl := Option.some.inj hx'
      exact ⟨_, hf, fun v hv => ⟨by simp, .inl ⟨rfl, rfl, hv, fun c' hc' => by cases hc'⟩⟩⟩
    · rw [List.getElem?_set_ne hg] at hx'
      exact ⟨x', hx', fun _ hv => hv⟩
  refine h.run B R w0 L0 _ w a R0 (by simp; omega) ?_ g3 ⟨fun j => ?_, h4.defers, h4.room⟩ h5
  · intro j hj hm
    rw [upd_ne (by omega)]
    exact h2 j hj hm
  · have := (h4.get j).mono (M := []) (N' := (H ++ [PO.rows2 false sz []]).length) (by simp) g1
    rw [killA_nil] at this
    simpa using this

theorem Does.nilH {P : Program} {f : FuncId} {args : List AV} {H : List PO} {K : AV → List Nat → List PO → Prop} (i g sz : Nat) (hsz : 0 < sz) {cs : List CV} (hi : H[i]? = some (.one cs)) (hg : cs[g]? = some .nilslc)
    (h : Does P f args ((H ++ [PO.rows false sz []]).set i (PO.one (cs.set g (CV.slc H.length 0 0 none false)))) K) : Does P f args H K := by
  refine ⟨h.fn, fun B R w0 L w vs hrel hvs => ?_⟩
  obtain ⟨g1, g2⟩ := none_sound hrel sz hsz
  have hlt := (List.getElem?_eq_some_iff.1 hi).1
  have g3 := g2.weaken (i := i) (cs := cs) (cs' := cs.set g (.slc H.length 0 0 none false)) (by rw [List.getElem?_append_left hlt]; exact hi) (by simp) fun j x' hx' => by
    by_cases hj : g = j
    · subst hj
      rw [List.getElem?_set_self (List.getElem?_eq_some_iff.1 hg).1] at hx'
      obtain rfl := Option.some.inj hx'
      exact ⟨_, hg, fun v hv => ⟨by simp, .inl ⟨rfl, rfl, hv, fun c' hc' => by cases hc'⟩⟩⟩
    · rw [List.getElem?_set_ne hj] at hx'
      exact ⟨x', hx', fun _ hv => hv⟩
  refine (h.run B R w0 _ w vs g3 ?_).mono ?_
  · rw [List.length_set]
    clear h
    induction args generalizing vs with
    | nil => exact hvs
    | cons x xs ih =>
      obtain ⟨y, ys, h1, h2, h3⟩ := hvs
      refine ⟨y, ys, h1, ?_, ih _ h3⟩
      have := h2.mono (M := []) (N' := (H ++ [PO.rows false sz []]).length) (by simp) g1
      rwa [killA_nil] at this
  · rintro e w' ⟨u, he, L', x, M, H', k1, k2, k3, k4, k5⟩
    rw [List.length_set] at k1 k2
    refine ⟨u, he, L', x, M, H', fun i hi hm => ?_, ?_, k3, k4, k5⟩
    · rw [k1 i (by simp; omega) hm, upd_ne (by omega)]
    · simp at k2; omega

/-- A nil slice in a box that a call leaves: as one of no elements of an object of its own. -/
theorem Does.nilOut {P : Program} {f : FuncId} {args : List AV} {H : List PO} {K : AV → List Nat → List PO → Prop} (i g sz : Nat) (hsz : 0 < sz)
    (h : Does P f args H fun x M H' => ∃ cs, H'[i]? = some (PO.one cs) ∧ cs[g]? = some CV.nilslc ∧ K x M ((H' ++ [PO.rows false sz []]).set i (PO.one (cs.set g (CV.slc H'.length 0 0 none false))))) : Does P f args H K := by
  refine ⟨h.fn, fun B R w0 L w vs hrel hvs => (h.run B R w0 L w vs hrel hvs).mono ?_⟩
  rintro e w' ⟨u, he, L', x, M, H', k1, k2, k3, k4, cs, hi, hg, hk⟩
  obtain ⟨g1, g2⟩ := none_sound k4 sz hsz
  have hlt := (List.getElem?_eq_some_iff.1 hi).1
  have g3 := g2.weaken (i := i) (cs := cs) (cs' := cs.set g (.slc H'.length 0 0 none false)) (by rw [List.getElem?_append_left hlt]; exact hi) (by simp) fun j x' hx' => by
    by_cases hj : g = j
    · subst hj
      rw [List.getElem?_set_self (List.getElem?_eq_some_iff.1 hg).1] at hx'
      obtain rfl := Option.some.inj hx'
      exact ⟨_, hg, fun v hv => ⟨by simp, .inl ⟨rfl, rfl, hv, fun c' hc' => by cases hc'⟩⟩⟩
    · rw [List.getElem?_set_ne hj] at hx'
      exact ⟨x', hx', fun _ hv => hv⟩
  refine ⟨u, he, _, x, M, _, fun j hj hm => ?_, by simp; omega, ?_, g3, hk⟩
  · rw [upd_ne (by omega), k1 j hj hm]
  · have := k3.mono (M := []) (N' := (H' ++ [PO.rows false sz []]).length) (by simp) g1
    rw [killA_nil] at this
    simpa using this

/-- More may be said to have moved. -/
theorem Does.moved {P : Program} {f : FuncId} {args : List AV} {H : List PO} {K : AV → List Nat → List PO → Prop} (M0 : List Nat) (h : Does P f args H fun x M H' => (∀ i ∈ M, i ∈ M0) ∧ K x M0 H') : Does P f args H K :=
  ⟨h.fn, fun B R w0 L w vs hrel hvs => (h.run B R w0 L w vs hrel hvs).mono fun _ _ ⟨v, he, L', x, _M, H', h1, h2, h3, h4, h5, h6⟩ =>
    ⟨v, he, L', x, M0, H', h1.sup fun i hi _ => h5 i hi, h2, h3, h4, h6⟩⟩

/-- What nobody asks for any more may be left out: all objects from the n-th on. -/
theorem Does.cut {P : Program} {f : FuncId} {args : List AV} {H : List PO} {K : AV → List Nat → List PO → Prop} (n : Nat) (h : Does P f args H fun x M H' => H.length ≤ n ∧ n ≤ H'.length ∧ lowH n (H'.take n) = true ∧ lowA n x = true ∧ K x M (H'.take n)) : Does P f args H K :=
  ⟨h.fn, fun B R w0 L w vs hrel hvs => (h.run B R w0 L w vs hrel hvs).mono fun _ _ ⟨v, he, L', x, M, H', h1, _, h3, h4, n1, n2, hl, ha, hk⟩ =>
    have e : (H'.take n).length = n := by rw [List.length_take]; omega
    ⟨v, he, L', x, M, H'.take n, h1, by rw [e]; exact n1, by rw [e]; exact VA.low ha h3, h4.take hl n2, hk⟩⟩

/-- Some of the objects, under new numbers. -/
theorem Rel.keep {B R : Nat → Prop} {w0 : World} {L : Nat → Loc} {H : List PO} {w : World} (h : Rel B R w0 L H w) (ids : List Nat) (hnd : ids.Nodup) (hlt : ∀ i ∈ ids, i < H.length) (Hl : List PO) (hl : Hl.length = ids.length) (hlo : lowH ids.length Hl = true)
    (hH : ∀ (k j : Nat) (o : PO), ids[k]? = some j → Hl[k]? = some o → H[j]? = some (renO (gmap ids H.length) o)) : Rel B R w0 (fun i => L (gmap ids H.length i)) Hl w := by
  have hgl : ∀ i, i < ids.length → ∃ j, ids[i]? = some j ∧ gmap ids H.length i = j ∧ j < H.length := fun i hi => by
    have h1 : ids[i]? = some ids[i] := by simp [hi]
    exact ⟨_, h1, gmap_some h1, hlt _ (List.getElem_mem hi)⟩
  have key : ∀ (i : Nat) (o : PO), Hl[i]? = some o → ∃ j, ids[i]? = some j ∧ gmap ids H.length i = j ∧ H[j]? = some (renO (gmap ids H.length) o) := fun i o ho => by
    obtain ⟨j, h1, h2, _⟩ := hgl i (by rw [← hl]; exact (List.getElem?_eq_some_iff.1 ho).1)
    exact ⟨j, h1, h2, hH i j o h1 ho⟩
  refine ⟨h.below, h.start, fun i o ho => ?_, fun i o b ho hb => ?_, fun i o b ho hb => ?_, h.sub⟩
  · obtain ⟨j, hj, hgj, hoj⟩ := key i o ho
    rw [hl]
    simp only [hgj]
    exact OR.unren (fun k hk => by obtain ⟨_, _, e, hh⟩ := hgl k hk; omega) (lowH_spec hlo o (List.mem_of_getElem? ho)) (h.obj j _ hoj)
  · obtain ⟨j, hj, hgj, hoj⟩ := key i o ho
    simp only [hgj] at hb
    obtain ⟨h1, h2, h3⟩ := h.own j _ b hoj (Own_ren.2 hb)
    refine ⟨h1, h2, fun i' o' ho' hb' => ?_⟩
    obtain ⟨j', hj', hgj', hoj'⟩ := key i' o' ho'
    simp only [hgj'] at hb'
    have := h3 j' _ hoj' (Own_ren.2 hb')
    subst this
    exact nodup_inj hnd hj' hj
  · obtain ⟨j, hj, hgj, hoj⟩ := key i o ho
    simp only [hgj] at hb
    exact h.ro j _ b hoj (Ro_ren.2 hb)

/-- Of what a call leaves just so much is told, under new numbers: what was handed in first. -/
theorem Does.keep {P : Program} {f : FuncId} {args : List AV} {H : List PO} {K : AV → List Nat → List PO → Prop} (N : Nat) (hN : H.length = N)
    (h : Does P f args H fun x M H' => ∃ (m : Nat) (ids : List Nat) (Hl : List PO) (xl : AV), H'.length = m ∧ ids.take N = List.range N ∧ ids.Nodup ∧ (∀ i ∈ ids, i < m) ∧ Hl.length = ids.length ∧ lowH ids.length Hl = true ∧ lowA ids.length xl = true ∧
      (ids.map fun i => H'[i]?) = (Hl.map fun o => some (renO (gmap ids m) o)) ∧ x = renA (gmap ids m) xl ∧ K xl M Hl) : Does P f args H K := by
  refine ⟨h.fn, fun B R w0 L w vs hrel hvs => (h.run B R w0 L w vs hrel hvs).mono ?_⟩
  rintro e w' ⟨v, he, L', x, M, H', h1, _, h3, h4, m, ids, Hl, xl, hm, hr, hnd, hlt, hl, hlo, hla, hH, rfl, hk⟩
  subst hm
  have hlen : N ≤ ids.length := by
    have := congrArg List.length hr
    simp at this
    omega
  refine ⟨v, he, fun i => L' (gmap ids H'.length i), xl, M, Hl, fun i hi hm => ?_, by omega, ?_, h4.keep ids hnd hlt Hl hl hlo fun k j o hk ho => ?_, hk⟩
  · rw [← h1 i hi hm]
    have : ids[i]? = some i := by
      have h5 := congrArg (·[i]?) hr
      simp only [List.getElem?_take_of_lt (show i < N by omega), List.getElem?_range (show i < N by omega)] at h5
      exact h5
    show L' (gmap ids H'.length i) = _
    rw [gmap_some this]
  · rw [hl]
    refine VA.unren (fun i hi => ?_) hla h3
    rw [gmap_some (j := ids[i]) (by simp [hi])]
    exact hlt _ (List.getElem_mem hi)
  · have := congrArg (·[k]?) hH
    simp only [List.getElem?_map, hk, ho, Option.map_some, Option.some.injEq] at this
    exact this

/-- A slice that may be nil is nil, or it isn't. -/
theorem Does.nil0 {P : Program} {f : FuncId} {args : List AV} {H : List PO} {K : AV → List Nat → List PO → Prop} {r o n : Nat} {c : Option Nat} (h0 : n = 0 → Does P f (cv .nilslc :: args) H K) (h1 : Does P f (cv (.slc r o n c true) :: args) H K) :
    Does P f (cv (.slc r o n c false) :: args) H K := by
  refine ⟨h1.fn, fun B R w0 L w vs hrel hvs => ?_⟩
  obtain ⟨v, us, rfl, ⟨hr, hv⟩, hus⟩ := hvs
  rcases hv with ⟨_, hn, rfl, _⟩ | hv
  · exact (h0 hn).run B R w0 L w _ hrel ⟨_, _, rfl, rfl, hus⟩
  · exact h1.run B R w0 L w _ hrel ⟨_, _, rfl, ⟨hr, .inr hv⟩, hus⟩

/-! ### What is looked at in rows -/

theorem at2 {a b r : Prop} (h1 : a) (h2 : b) (h3 : r) : a ∧ b ∧ r := ⟨h1, h2, h3⟩

theorem rd1 {rs : List (List FC)} {i f : Nat} {K : FC → Prop} (row : List FC) (x : FC) (h1 : rs[i]? = some row) (h2 : row[f]? = some x) (h : K x) : ∃ row x, rs[i]? = some row ∧ row[f]? = some x ∧ K x := ⟨row, x, h1, h2, h⟩

theorem wr1 {rs : List (List FC)} {i : Nat} {K : List FC → Prop} (row : List FC) (h1 : rs[i]? = some row) (h : K row) : ∃ row, rs[i]? = some row ∧ K row := ⟨row, h1, h⟩

theorem rdA {rs : List (List FC)} {i : Nat} {K : List FC → Prop} (row : List FC) (h1 : rs[i]? = some row) (h : K row) : ∃ row, rs[i]? = some row ∧ K row := ⟨row, h1, h⟩

/-- Slices whose places were told become slices. -/
theorem Does.shut {P : Program} {f : FuncId} {args : List AV} {H : List PO} {K : AV → List Nat → List PO → Prop}
    (h : Does P f args H fun x M H' => ∃ (H0 : List PO) (ap : Bool) (sz : Nat) (es : List (Option (ILoc × List (List FC)))) (rss : List (List (List FC))) (n : Nat) (c : Option Nat) (nn : Bool), H' = H0 ++ [.rows3 ap sz es] ∧ H0.length = H.length ∧ H0.map (killO [H.length]) = H0 ∧
      x = cv (.slc H.length 0 n c nn) ∧ es.length = rss.length ∧ (∀ (i : Nat) (rs : List (List FC)), rss[i]? = some rs → ∃ l, es[i]? = some (some (l, rs))) ∧ K x M (H0 ++ [.rows2 false sz rss])) : Does P f args H K := by
  refine ⟨h.fn, fun B R w0 L w vs hrel hvs => (h.run B R w0 L w vs hrel hvs).mono ?_⟩
  rintro e w' ⟨v, he, L', x, M, H', h1, h2, h3, h4, H0, ap, sz, es, rss, n, c, nn, rfl, hl, hk, rfl, hle, hes, hK⟩
  have hN : (H0 ++ [PO.rows3 ap sz es])[H.length]? = some (.rows3 ap sz es) := by rw [← hl, List.getElem?_append_right (Nat.le_refl _), Nat.sub_self]; rfl
  let inn : Nat → ILoc := fun i => match es[i]? with
    | some (some p) => p.1
    | _ => ⟨0, 0, 0, sz⟩
  have hinn : ∀ (i : Nat) (l : ILoc) (rs : List (List FC)), es[i]? = some (some (l, rs)) → inn i = l := fun i l rs hi => by simp only [inn, hi]
  obtain ⟨c1, c2, c3, c4⟩ := h4.obj _ _ hN
  have hget : ∀ (i : Nat), i < rss.length → ∃ p, es[i]? = some (some p) ∧ inn i = p.1 ∧ rss[i]? = some p.2 := fun i hi => by
    obtain ⟨l, hl⟩ := hes i rss[i] (List.getElem?_eq_getElem hi)
    exact ⟨_, hl, hinn i _ _ hl, List.getElem?_eq_getElem hi⟩
  have hag : Agree (H0 ++ [PO.rows3 ap sz es]).length [H.length] L' (upd L' H.length ⟨(L' H.length).h, inn⟩) := fun j _ hm => upd_ne (by simpa using hm)
  refine ⟨v, he, upd L' H.length ⟨(L' H.length).h, inn⟩, _, M, H0 ++ [.rows2 false sz rss], fun j hj hm => (upd_ne (by omega)).trans (h1 j hj hm), by simpa using h2, ?_, ?_, hK⟩
  · obtain ⟨k1, k2⟩ := h3
    refine ⟨by simpa using k1, ?_⟩
    rw [upd_self]
    exact k2
  · refine h4.put (M := [H.length]) H.length (.rows2 false sz rss) (by simp) (by rw [← hl, List.getElem?_append_right (Nat.le_refl _), Nat.sub_self]; rfl) (fun j hj o ho => ?_) hag (fun j hj => upd_ne hj) (Bel.refl _ _) (fun _ _ => .inl rfl) (fun b hb => ?_) (fun b hb => hb.elim) ?_
    · rcases Nat.lt_or_ge j H0.length with hlt | hge
      · rw [List.getElem?_append_left hlt] at ho ⊢
        refine ⟨o, ho, ?_⟩
        have := congrArg (·[j]?) hk
        simp only [List.getElem?_map, ho] at this
        exact (Option.some.inj this).symm
      · rw [List.getElem?_append_right hge, show j - H0.length = (j - H0.length - 1) + 1 by omega] at ho
        cases ho
    · have ho : Own (.rows3 ap sz es) (L' H.length) b := by
        rw [upd_self] at hb
        rcases hb with hb | ⟨i, hi, hc, rfl⟩
        · exact .inl hb
        · obtain ⟨p, hp, hpi, _⟩ := hget i hi
          have hc : (inn i).cap ≠ 0 := hc
          rw [hpi] at hc
          refine .inr ⟨i, p, hp, hc, ?_⟩
          show (inn i).blk = _
          rw [hpi]
      obtain ⟨k1, k2, _⟩ := h4.own _ _ _ hN ho
      exact ⟨k1, k2, .inr ⟨_, hN, ho⟩⟩
    · rw [upd_self]
      refine ⟨c1, by rw [← hle]; exact c2, fun _ hc => c3 hc, fun i rs hi => ?_, fun _ hc i hi hci => ?_⟩
      · obtain ⟨l, hli⟩ := hes i rs hi
        obtain ⟨d1, ⟨u, d2, d3⟩, _⟩ := c4 i _ hli
        show RowsAt w' true sz rs (inn i) ∧ ∃ v, _ ∧ Hdr (inn i) 0 rs.length none false v
        rw [hinn i _ _ hli]
        exact ⟨d1, u, d2, d3⟩
      · obtain ⟨p, hp, hpi, _⟩ := hget i hi
        have hci : (inn i).cap ≠ 0 := hci
        show (inn i).blk ≠ _
        rw [hpi] at hci ⊢
        exact ((c4 i p hp).2.2 hci).1 hc

end Go.Mac
end

/- The machine of abstract values: one of a slice's slices handed on as rows that are only read. -/
section
namespace Go.Mac
open Go

theorem VAs.mono {N N' : Nat} {L L' : Nat → Loc} {M : List Nat} (hN : N ≤ N') (hL : Agree N M L L') : ∀ {xs : List AV} {vs : List Value}, VAs N L xs vs → VAs N' L' (xs.map (killA M)) vs
  | [], _, h => h
  | _ :: _, _, ⟨y, ys, h1, h2, h3⟩ => ⟨y, ys, h1, h2.mono hN hL, VAs.mono hN hL h3⟩

def noRo : List PO → Bool
  | [] => true
  | .rows true _ _ :: _ => false
  | .rows2 true _ _ :: _ => false
  | .rows2m _ _ :: _ => false
  | .hnd _ _ _ _ :: _ => false
  | .tab _ _ :: _ => false
  | .errv _ :: _ => false
  | _ :: os => noRo os

theorem noRo_spec : ∀ {H : List PO}, noRo H = true → ∀ (j : Nat) (o : PO) (l : Loc) (b : Nat), H[j]? = some o → ¬ Ro o l b
  | [], _, j, o, l, b, hj => by simp at hj
  | x :: H, h, j, o, l, b, hj => by
    cases j with
    | zero =>
      simp at hj; subst hj
      intro hb
      cases x with
      | one _ => exact hb
      | gone => exact hb
      | hnd _ _ _ _ => simp [noRo] at h
      | tab _ _ => simp [noRo] at h
      | errv _ => simp [noRo] at h
      | rows2m _ _ => simp [noRo] at h
      | mp _ _ _ _ => exact hb
      | it _ _ _ _ _ => exact hb
      | bld _ _ _ _ => exact hb
      | rows3 _ _ _ => exact hb
      | rows ro _ _ => cases ro <;> first | exact hb | simp [noRo] at h
      | rows2 ro _ _ => cases ro <;> first | exact hb | simp [noRo] at h
    | succ j =>
      refine noRo_spec (H := H) ?_ j o l b (by simpa using hj)
      cases x with
      | one _ => exact h
      | gone => exact h
      | hnd _ _ _ _ => simp [noRo] at h
      | tab _ _ => simp [noRo] at h
      | errv _ => simp [noRo] at h
      | rows2m _ _ => simp [noRo] at h
      | mp _ _ _ _ => exact h
      | it _ _ _ _ _ => exact h
      | bld _ _ _ _ => exact h
      | rows3 _ _ _ => exact h
      | rows ro _ _ => cases ro <;> first | exact h | simp [noRo] at h
      | rows2 ro _ _ => cases ro <;> first | exact h | simp [noRo] at h

def mapKillK (args : List AV) (k : List AV → Prop) : Prop := k (args.map (killA [0]))

theorem Does.row {P : Program} {f : FuncId} {args : List AV} {Hl : List PO} {K : AV → List Nat → List PO → Prop} {ro : Bool} {sz n i : Nat} {rss : List (List (List FC))} (rs : List (List FC)) (hi : rss[i]? = some rs) (_hn : rs.length = n)
    (h : Does P f (cv (.slc 0 0 n none false) :: args.map (killA [0])) (.rows true sz rs :: Hl.map (killO [0])) fun x M H' => match H' with
      | _ :: Hl' => (ro || noRo Hl') = true ∧ K (killA [0] x) M (.rows2 ro sz rss :: Hl'.map (killO [0]))
      | _ => False) : Does P f (cv (.islc 0 i 0 n none false) :: args) (.rows2 ro sz rss :: Hl) K := by
  refine ⟨h.fn, fun B R w0 L w vs hrel hvs => ?_⟩
  obtain ⟨v, us, rfl, ⟨hlt, hh⟩, hus⟩ := hvs
  have hO := hrel.obj 0 _ rfl
  have hilt := (List.getElem?_eq_some_iff.1 hi).1
  have hlen : (PO.rows true sz rs :: Hl.map (killO [0])).length = (PO.rows2 ro sz rss :: Hl).length := by simp
  have hag : Agree (PO.rows2 ro sz rss :: Hl).length [0] L (upd L 0 ⟨(L 0).inn i, (L 0).inn⟩) := fun j _ hm => upd_ne (by simpa using hm)
  have hown0 : ∀ b, Own (.rows2 ro sz rss) (L 0) b ∨ Ro (.rows2 ro sz rss) (L 0) b → b < w.heap.size := fun b hb => by
    rcases hb with hb | hb
    · exact (hrel.own 0 _ b rfl hb).2.1
    · exact hrel.size _ (hrel.sub _ (hrel.ro 0 _ b rfl hb))
  have hrel1 : Rel (fun b => B b ∨ (Own (.rows2 ro sz rss) (L 0) b ∨ Ro (.rows2 ro sz rss) (L 0) b)) (fun b => R b ∨ (Own (.rows2 ro sz rss) (L 0) b ∨ Ro (.rows2 ro sz rss) (L 0) b)) w (upd L 0 ⟨(L 0).inn i, (L 0).inn⟩) (PO.rows true sz rs :: Hl.map (killO [0])) w := by
    refine ⟨Bel.refl _ _, fun k hk => ?_, fun j o hj => ?_, fun j o b hj hb => ?_, fun j o b hj hb => ?_, fun b hb => ?_⟩
    · rcases hk with hk | hk
      · exact hrel.size k hk
      · exact hown0 k hk
    · cases j with
      | zero =>
        simp at hj; subst hj
        obtain ⟨⟨g1, g2, g3, _, g5⟩, _⟩ := hO.2.2.2.1 i rs hi
        rw [upd_self]
        exact ⟨g1, g2, g3, fun hh => by simp at hh, g5⟩
      | succ j =>
        simp only [List.getElem?_cons_succ, List.getElem?_map, Option.map_eq_some_iff] at hj
        obtain ⟨o0, ho0, rfl⟩ := hj
        rw [upd_ne (by omega), hlen]
        exact (hrel.obj (j + 1) o0 (by simpa using ho0)).mono (Nat.le_refl _) hag fun _ _ => rfl
    · cases j with
      | zero => simp at hj; subst hj; exact hb.elim
      | succ j =>
        simp only [List.getElem?_cons_succ, List.getElem?_map, Option.map_eq_some_iff] at hj
        obtain ⟨o0, ho0, rfl⟩ := hj
        rw [upd_ne (by omega), Own_kill] at hb
        obtain ⟨g1, g2, g3⟩ := hrel.own (j + 1) o0 b (by simpa using ho0) hb
        refine ⟨fun hB => ?_, g2, fun j' o' hj' hb' => ?_⟩
        · rcases hB with hB | hB | hB
          · exact g1 hB
          · have := g3 0 _ rfl hB; omega
          · exact g1 (hrel.sub _ (hrel.ro 0 _ b rfl hB))
        · cases j' with
          | zero => simp at hj'; subst hj'; exact hb'.elim
          | succ j' =>
            simp only [List.getElem?_cons_succ, List.getElem?_map, Option.map_eq_some_iff] at hj'
            obtain ⟨o1, ho1, rfl⟩ := hj'
            rw [upd_ne (by omega), Own_kill] at hb'
            exact g3 (j' + 1) o1 (by simpa using ho1) hb'
    · cases j with
      | zero =>
        simp at hj; subst hj
        rw [upd_self] at hb
        right
        cases ro
        · exact .inl (.inr ⟨i, hilt, hb.1, hb.2⟩)
        · exact .inr (.inr ⟨i, hilt, hb.1, hb.2⟩)
      | succ j =>
        simp only [List.getElem?_cons_succ, List.getElem?_map, Option.map_eq_some_iff] at hj
        obtain ⟨o0, ho0, rfl⟩ := hj
        rw [upd_ne (by omega), Ro_kill] at hb
        exact .inl (hrel.ro (j + 1) o0 b (by simpa using ho0) hb)
    · rcases hb with hb | hb
      · exact .inl (hrel.sub b hb)
      · exact .inr hb
  refine (h.run _ _ w _ w (v :: us) hrel1 ⟨v, us, rfl, ⟨by simp, by rw [upd_self]; exact hh⟩, by rw [hlen]; exact VAs.mono (Nat.le_refl _) hag hus⟩).mono ?_
  rintro e w' ⟨u, he, L2, x, M, H', k1, k2, k3, k4, k5⟩
  cases H' with
  | nil => simp at k2
  | cons o' Hl' =>
  obtain ⟨hro, k5⟩ := k5
  have hag2 : Agree (o' :: Hl').length [0] L2 (upd L2 0 (L 0)) := fun j _ hm => upd_ne (by simpa using hm)
  have hag3 : Agree (PO.rows2 ro sz rss :: Hl).length M L (upd L2 0 (L 0)) := fun j hj hm => by
    by_cases h0 : j = 0
    · subst h0; rw [upd_self]
    · rw [upd_ne h0, k1 j (by rw [hlen]; exact hj) hm, upd_ne h0]
  have hlen2 : (PO.rows2 ro sz rss :: Hl'.map (killO [0])).length = (o' :: Hl').length := by simp
  refine ⟨u, he, upd L2 0 (L 0), killA [0] x, M, _, hag3, by rw [hlen] at k2; rw [hlen2]; exact k2, by rw [hlen2]; exact k3.mono (Nat.le_refl _) hag2, ?_, k5⟩
  have hbel : Bel B w w' := ⟨k4.below.os, k4.below.tape, k4.below.output, k4.below.size, fun k hk => k4.below.block k (.inl hk)⟩
  refine ⟨hrel.below.trans hbel, hrel.start, fun j o hj => ?_, fun j o b hj hb => ?_, fun j o b hj hb => ?_, hrel.sub⟩
  · cases j with
    | zero =>
      simp at hj; subst hj
      rw [upd_self]
      exact (hrel.obj 0 _ rfl).mono (M := M) (by rw [hlen] at k2; rw [hlen2]; exact k2) hag3 fun b hb => k4.below.block b (.inr hb)
    | succ j =>
      simp only [List.getElem?_cons_succ, List.getElem?_map, Option.map_eq_some_iff] at hj
      obtain ⟨o0, ho0, rfl⟩ := hj
      rw [upd_ne (by omega), hlen2]
      exact (k4.obj (j + 1) o0 (by simpa using ho0)).mono (Nat.le_refl _) hag2 fun _ _ => rfl
  · cases j with
    | zero =>
      simp at hj; subst hj
      rw [upd_self] at hb
      obtain ⟨g1, g2, _⟩ := hrel.own 0 _ b rfl hb
      refine ⟨g1, Nat.lt_of_lt_of_le g2 hbel.size, fun j' o1 hj' hb' => ?_⟩
      cases j' with
      | zero => rfl
      | succ j' =>
        simp only [List.getElem?_cons_succ, List.getElem?_map, Option.map_eq_some_iff] at hj'
        obtain ⟨o0, ho0, rfl⟩ := hj'
        rw [upd_ne (by omega), Own_kill] at hb'
        exact absurd (.inr (.inl hb)) (k4.own (j' + 1) o0 b (by simpa using ho0) hb').1
    | succ j =>
      simp only [List.getElem?_cons_succ, List.getElem?_map, Option.map_eq_some_iff] at hj
      obtain ⟨o0, ho0, rfl⟩ := hj
      rw [upd_ne (by omega), Own_kill] at hb
      obtain ⟨g1, g2, g3⟩ := k4.own (j + 1) o0 b (by simpa using ho0) hb
      refine ⟨fun hB => g1 (.inl hB), g2, fun j' o1 hj' hb' => ?_⟩
      cases j' with
      | zero =>
        simp at hj'; subst hj'
        rw [upd_self] at hb'
        exact absurd (.inr (.inl hb')) g1
      | succ j' =>
        simp only [List.getElem?_cons_succ, List.getElem?_map, Option.map_eq_some_iff] at hj'
        obtain ⟨o2, ho2, rfl⟩ := hj'
        rw [upd_ne (by omega), Own_kill] at hb'
        exact g3 (j' + 1) o2 (by simpa using ho2) hb'
  · cases j with
    | zero =>
      simp at hj; subst hj
      rw [upd_self] at hb
      exact hrel.ro 0 _ b rfl hb
    | succ j =>
      simp only [List.getElem?_cons_succ, List.getElem?_map, Option.map_eq_some_iff] at hj
      obtain ⟨o0, ho0, rfl⟩ := hj
      rw [upd_ne (by omega), Ro_kill] at hb
      cases ro with
      | false =>
        simp only [Bool.false_or] at hro
        exact absurd hb (noRo_spec hro j o0 _ b ho0)
      | true =>
        rcases k4.ro (j + 1) o0 b (by simpa using ho0) hb with hb | hb | hb
        · exact hb
        · exact hb.elim
        · exact hrel.ro 0 _ b rfl hb

/-- A row of slices of one's own, handed on as one that is only read. -/
theorem Does.asRo {P : Program} {f : FuncId} {args : List AV} {K : AV → List Nat → List PO → Prop} {sz : Nat} {rss : List (List (List FC))}
    (h : Does P f args [.rows2 true sz rss] fun x M H' => match H' with
      | o :: Hl' => o = .rows2 true sz rss ∧ has M 0 = false ∧ noRo Hl' = true ∧ K x M (.rows2m sz rss :: Hl')
      | _ => False) : Does P f args [.rows2m sz rss] K := by
  refine ⟨h.fn, fun B R w0 L w vs hrel hvs => ?_⟩
  obtain ⟨g1, g2, g3, g4⟩ := hrel.obj 0 _ rfl
  have hout : ∀ b, (L 0).h.cap ≠ 0 ∧ b = (L 0).h.blk → ¬ B b ∧ b < w.heap.size := fun b hb => by
    obtain ⟨k1, k2, _⟩ := hrel.own 0 _ b rfl hb
    exact ⟨k1, k2⟩
  have hrel1 : Rel (fun b => B b ∨ ((L 0).h.cap ≠ 0 ∧ b = (L 0).h.blk)) (fun b => R b ∨ ((L 0).h.cap ≠ 0 ∧ b = (L 0).h.blk)) w L [PO.rows2 true sz rss] w := by
    refine ⟨Bel.refl _ _, fun k hk => ?_, fun j o hj => ?_, fun j o b hj hb => ?_, fun j o b hj hb => ?_, fun b hb => ?_⟩
    · rcases hk with hk | hk
      · exact hrel.size k hk
      · exact (hout k hk).2
    · cases j with
      | zero =>
        simp at hj; subst hj
        exact ⟨g1, g2, fun hh => by simp at hh, g4, fun hh => by simp at hh⟩
      | succ j => simp at hj
    · cases j with
      | zero => simp at hj; subst hj; exact hb.elim
      | succ j => simp at hj
    · cases j with
      | zero =>
        simp at hj; subst hj
        rcases hb with hb | hb
        · exact .inr hb
        · exact .inl (hrel.ro 0 _ b rfl hb)
      | succ j => simp at hj
    · rcases hb with hb | hb
      · exact .inl (hrel.sub b hb)
      · exact .inr hb
  refine (h.run _ _ w L w vs hrel1 hvs).mono ?_
  rintro e w' ⟨u, he, L2, x, M, H', k1, k2, k3, k4, k5⟩
  cases H' with
  | nil => simp at k2
  | cons o' Hl' =>
  obtain ⟨rfl, h0, hno, k5⟩ := k5
  have hL0 : L2 0 = L 0 := k1 0 (by simp) (has_false h0)
  have hbel : Bel B w w' := ⟨k4.below.os, k4.below.tape, k4.below.output, k4.below.size, fun k hk => k4.below.block k (.inl hk)⟩
  refine ⟨u, he, L2, x, M, PO.rows2m sz rss :: Hl', k1, k2, k3, ⟨hrel.below.trans hbel, hrel.start, fun j o hj => ?_, fun j o b hj hb => ?_, fun j o b hj hb => ?_, hrel.sub⟩, k5⟩
  · cases j with
    | zero =>
      simp at hj; subst hj
      rw [hL0]
      have hm := (hrel.obj 0 _ rfl).mono (M := []) (w' := w') (N' := (PO.rows2m sz rss :: Hl').length) (by simp) (Agree.refl _ _ _) fun b hb => by
        rcases hb with hb | hb
        · exact k4.below.block b (.inr hb)
        · exact k4.below.block b (.inl (hrel.sub b (hrel.ro 0 _ b rfl hb)))
      exact hm
    | succ j => exact k4.obj (j + 1) o (by simpa using hj)
  · cases j with
    | zero =>
      simp at hj; subst hj
      rw [hL0] at hb
      obtain ⟨q1, q2⟩ := hout b hb
      refine ⟨q1, Nat.lt_of_lt_of_le q2 hbel.size, fun j' o1 hj' hb' => ?_⟩
      cases j' with
      | zero => rfl
      | succ j' => exact absurd (.inr hb) (k4.own (j' + 1) o1 b (by simpa using hj') hb').1
    | succ j =>
      obtain ⟨q1, q2, q3⟩ := k4.own (j + 1) o b (by simpa using hj) hb
      refine ⟨fun hB => q1 (.inl hB), q2, fun j' o1 hj' hb' => ?_⟩
      cases j' with
      | zero =>
        simp at hj'; subst hj'
        rw [hL0] at hb'
        exact absurd (.inr hb') q1
      | succ j' => exact q3 (j' + 1) o1 (by simpa using hj') hb'
  · cases j with
    | zero =>
      simp at hj; subst hj
      rw [hL0] at hb
      exact hrel.ro 0 _ b rfl hb
    | succ j => exact absurd hb (noRo_spec hno j o _ b (by simpa using hj))

end Go.Mac
end

/- Bits of numbers as sums and remainders: no program in sight. -/
section
namespace Go.Mac
open Go

theorem bv_toNat (a : Nat) (h : a < 18446744073709551616) : (BitVec.ofInt 64 (a : Int)).toNat = a := by
  simp
  omega

/-- Or of what does not overlap is the sum. -/
theorem or_z (k : Nat) (a b : Int) (ha : 0 ≤ a) (ha' : a < 2 ^ k) (hb : 0 ≤ b) (hc : b * 2 ^ k < 18446744073709551616) (ha2 : a < 18446744073709551616) :
    (((BitVec.ofInt 64 a ||| BitVec.ofInt 64 (b * 2 ^ k)).toNat : Nat) : Int) = a + b * 2 ^ k := by
  obtain ⟨a, rfl⟩ := Int.eq_ofNat_of_zero_le ha
  obtain ⟨b, rfl⟩ := Int.eq_ofNat_of_zero_le hb
  have e : ((b : Int) * 2 ^ k) = ((b * 2 ^ k : Nat) : Int) := by rw [Int.natCast_mul, Int.natCast_pow]; rfl
  rw [e] at hc ⊢
  rw [BitVec.toNat_or, bv_toNat a (by omega), bv_toNat _ (by omega)]
  have ha'' : a < 2 ^ k := by exact_mod_cast ha'
  have := Nat.shiftLeft_add_eq_or_of_lt ha'' b
  rw [Nat.shiftLeft_eq] at this
  rw [Nat.or_comm, ← this]
  omega

/-- And with low bits alone is the remainder. -/
theorem and_z (k : Nat) (a m : Int) (ha : 0 ≤ a) (ha' : a < 18446744073709551616) (hm : m = 2 ^ k - 1) (hk : m < 18446744073709551616) :
    (((BitVec.ofInt 64 a &&& BitVec.ofInt 64 m).toNat : Nat) : Int) = a % 2 ^ k := by
  obtain ⟨a, rfl⟩ := Int.eq_ofNat_of_zero_le ha
  have h1 : 1 ≤ 2 ^ k := Nat.one_le_two_pow
  have e : m = ((2 ^ k - 1 : Nat) : Int) := by rw [hm, Int.ofNat_sub h1, Int.natCast_pow]; rfl
  rw [e] at hk ⊢
  rw [BitVec.toNat_and, bv_toNat a (by omega), bv_toNat _ (by omega), Nat.and_two_pow_sub_one_eq_mod, Int.natCast_emod, Int.natCast_pow]
  rfl

end Go.Mac
end
