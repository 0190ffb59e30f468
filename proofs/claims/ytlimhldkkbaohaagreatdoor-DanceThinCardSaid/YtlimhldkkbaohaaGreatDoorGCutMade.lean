/- Texts that belong together; the first of them: Calls. -/
import Derived.Test.YtlimhldkkbaohaaGreatDoorGBase
import Derived.Test.YtlimhldkkbaohaaGreatDoorGFinish
import Derived.Test.YtlimhldkkbaohaaGreatDoorGMachN
import Derived.Test.YtlimhldkkbaohaaGreatDoorGMachB

/- Calls. -/
section
namespace Go.Mac

structure CallZ where
  w : Int
  n : Int

abbrev rowCallZ (x : CallZ) : List FC := [.int .i64 x.w, .int .i64 x.n]

end Go.Mac
end

/- Ways meet, whatever numbers the objects have. -/
section
open Go Go.Proofs Go.Mac
namespace Go.Mac

section
variable {P : Program} {nt N0 : Nat} {Q : QT}

/-- A state where ways meet: the named temporaries, and the named objects in their new order, are those of some x. -/
def AtK {α : Type} (N0 : Nat) (tm : α → Tm) (hp : α → List PO) (M0 : List Nat) (T : Tm) (M : List Nat) (H : List PO) (I : α → Prop) : Prop :=
  ∃ (x : α) (n : Nat) (ids : List Nat), I x ∧ H.length = n ∧ ids.take N0 = List.range N0 ∧ ids.Nodup ∧ (∀ i ∈ ids, i < n) ∧ (hp x).length = ids.length ∧ lowH ids.length (hp x) = true ∧ lowT ids.length (tm x) = true ∧
    (ids.map fun i => H[i]?) = ((hp x).map fun o => some (renO (gmap ids n) o)) ∧ (∀ e ∈ tm x, lk T e.1 = renA (gmap ids n) e.2) ∧ N0 ≤ ids.length ∧ ∀ i ∈ M, i ∈ M0 ∨ N0 ≤ i

theorem lk_mem : ∀ {T : Tm} {i : Nat}, lk T i = .u ∨ ∃ e ∈ T, e.1 = i ∧ lk T i = e.2
  | [], i => .inl rfl
  | (j, x) :: T, i => by
    rw [lk_cons]
    split
    · rename_i h
      exact .inr ⟨(j, x), List.mem_cons_self, h, rfl⟩
    · rcases lk_mem (T := T) (i := i) with h | ⟨e, he, h⟩
      · exact .inl h
      · exact .inr ⟨e, by simp [he], h⟩

theorem SS.cutK {x y : Code} {T : Tm} {M : List Nat} {H : List PO} {α : Type} (I : α → Prop) (tm : α → Tm) (hp : α → List PO) (M0 : List Nat)
    (h1 : SS P nt N0 x T M H fun e T' M' H' => match e with
      | .normal => AtK N0 tm hp M0 T' M' H' I
      | e => Q e T' M' H')
    (h2 : ∀ z, I z → SS P nt N0 y (tm z) M0 (hp z) Q) : SS P nt N0 (.seq x y) T M H Q :=
  ⟨fun B R w0 L0 L w a R0 g1 g2 g3 g4 g5 => wp_seq (h1.run B R w0 L0 L w a _ g1 g2 g3 g4 fun e L' T' M' H' w' a' k1 k2 k3 k4 k5 => by
    cases e with
    | normal =>
      obtain ⟨z, n, ids, hI, rfl, hr, hnd, hlt, hl, hlo, hlt2, hH, hT, hN, hM⟩ := k5
      have hg : ∀ i, i < ids.length → gmap ids H'.length i < H'.length := fun i hi => by
        rw [gmap_some (j := ids[i]) (by simp [hi])]
        exact hlt _ (List.getElem_mem hi)
      have hrel := k3.keep ids hnd hlt (hp z) hl hlo fun k j o hk ho => by
        have := congrArg (·[k]?) hH
        simp only [List.getElem?_map, hk, ho, Option.map_some, Option.some.injEq] at this
        exact this
      refine (h2 z hI).run B R w0 L0 (fun i => L' (gmap ids H'.length i)) w' a' R0 (by omega) (fun i hi hm => ?_) hrel ⟨fun i => ?_, k4.defers, k4.room⟩ g5
      · have : ids[i]? = some i := by
          have h5 := congrArg (·[i]?) hr
          simp only [List.getElem?_take_of_lt hi, List.getElem?_range hi] at h5
          exact h5
        show L' (gmap ids H'.length i) = _
        rw [gmap_some this]
        refine k2 i hi fun hM' => ?_
        rcases hM i hM' with h | h
        · exact hm h
        · omega
      · rcases lk_mem (T := tm z) (i := i) with h | ⟨e, he, rfl, h⟩
        · rw [h]; trivial
        · have h6 := k4.get e.1
          rw [hT e he] at h6
          have h7 := lowT_spec hlt2 e.1
          rw [h, hl] at *
          exact VA.unren hg h7 h6
    | exit i => exact g5 (.exit i) L' T' M' H' w' a' k1 k2 k3 k4 k5
    | ret => exact g5 .ret L' T' M' H' w' a' k1 k2 k3 k4 k5)⟩

/-- One part, and then the rest. -/
theorem SS.stepR {x y : Code} {T : Tm} {M : List Nat} {H : List PO} (h : SR P nt N0 x T M H fun e T' M' H' => match e with
      | .normal => SS P nt N0 y T' M' H' Q
      | e => Q e T' M' H') : SS P nt N0 (.seq x y) T M H Q :=
  SS.seq (S_r h)

end

/-- A function's body, part by part. -/
def FnS (P : Program) (fn : Func) (c : Code) (args : List AV) (H : List PO) (K : AV → List Nat → List PO → Prop) : Prop :=
  lenK H numbers fun N0 => startK args numbers fun T => SS P fn.ntmps N0 c T [] H fun e T' M' H' =>
    match e with
    | .exit _ => False
    | _ => resK P T' H' fn.results.toList fun vs => tupA vs fun v => endK N0 v M' H' K

theorem doesS {P : Program} {H : List PO} {f : FuncId} {fn : Func} {c : Code} {args : List AV} {K : AV → List Nat → List PO → Prop} (hf : P.funcs[f]? = some fn) (hc : fn.body = some c) (hn : fn.name ≠ "runtime.NumGoroutine")
    (h : FnS P fn c args H K) : Does P f args H K := by
  refine ⟨⟨fn, hf, hn, by simp [hc]⟩, fun B R w0 L w vs hrel hvs => ?_⟩
  have h := lenK_spec h
  rw [numbers_eq] at h
  obtain ⟨T, h, hT⟩ := startK_spec' args 100 0 _ h
  refine calls_of_wp hf hc ?_
  have hlen := hvs.length
  have hget : ∀ {xs : List AV} {us : List Value}, VAs H.length L xs us → ∀ i : Nat, VA H.length L ((xs[i]?).getD .u) ((us[i]?).getD undef) := by
    intro xs
    induction xs with
    | nil => intro us h i; simp [VAs] at h; subst h; simp; trivial
    | cons x xs ih =>
      rintro us ⟨y, ys, rfl, h2, h3⟩ i
      cases i with
      | zero => exact h2
      | succ i => simpa using ih h3 i
  have ht : TR H.length L fn.ntmps T { tmps := vs.toArray ++ Array.replicate (fn.ntmps - vs.toArray.size) undef, defers := [] } := by
    refine ⟨fun i => ?_, rfl, by simp; omega⟩
    rw [hT i, if_pos (Nat.zero_le _), Nat.sub_zero]
    by_cases hi : i < vs.length
    · have := hget hvs i
      simpa [Array.getD_eq_getD_getElem?, Array.getElem?_append, hi] using this
    · have : args[i]? = none := List.getElem?_eq_none (by omega)
      rw [this]
      trivial
  refine h.run B R w0 L L w _ _ (Nat.le_refl _) (Agree.refl _ _ _) hrel ht ?_
  intro e L' T' M' H' w' a' h1 h2 h3 h4 h5
  have fin : (resK P T' H' fn.results.toList fun vs => tupA vs fun v => endK H.length v M' H' K) →
      a'.defers = [] ∧ ∃ v, (results fn a'.tmps).run P w' = .ok v w' ∧ ∃ u, Ending.returned v = .returned u ∧ Left B R w0 H.length L K u w' := by
    intro hres
    obtain ⟨xs, us, k1, k2, k3⟩ := resK_sound (P := P) h3 h4 fn.results.toList _ hres
    have hm : (results fn a'.tmps).run P w' = .ok (if h : us.toArray.size = 1 then us.toArray[0] else .tuple us.toArray) w' := by
      rw [results_eq]
      have hma : fn.results = fn.results.toList.toArray := by simp
      rw [hma]
      simp only [List.mapM_toArray, Sem.run_bind, Sem.run_map, k1, Result.andThen_ok, Sem.run_pure]
    refine ⟨h4.defers, _, hm, _, rfl, ?_⟩
    unfold tupA at k3
    split at k3
    · rename_i v
      obtain ⟨y, ys, rfl, hxy, hys⟩ := k2
      simp only [VAs] at hys
      subst hys
      exact endK_spec k3 h1 h2 h3 (by simpa using hxy)
    · rename_i hne
      split at k3 <;> try exact k3.elim
      rename_i l hl
      have hl2 := k2.length
      have : ¬ us.toArray.size = 1 := fun e => by
        have : xs.length = 1 := by simp at e; omega
        obtain ⟨x, hx⟩ := List.length_eq_one_iff.1 this
        exact hne x hx
      rw [dif_neg this]
      exact endK_spec k3 h1 h2 h3 ⟨us, rfl, pvs_spec hl k2⟩
  cases e with
  | normal => exact fin h5
  | ret => exact fin h5
  | exit i => exact h5.elim

/-- A call whose second argument is a nil slice: as one that is handed no elements of an object of its own. -/
theorem Does.nilArg2 {P : Program} {f : FuncId} {a : AV} {args : List AV} {H : List PO} {K : AV → List Nat → List PO → Prop} (sz : Nat) (hsz : 0 < sz) (h : Does P f (a :: cv (.slc H.length 0 0 none false) :: args) (H ++ [.rows false sz []]) K) :
    Does P f (a :: cv .nilslc :: args) H K := by
  refine ⟨h.fn, fun B R w0 L w vs hrel hvs => ?_⟩
  obtain ⟨v0, us0, rfl, hv0, v, us, rfl, hv, hus⟩ := hvs
  obtain ⟨g1, g2⟩ := none_sound hrel sz hsz
  obtain rfl : v = .slice none 0 0 := hv
  have hm : ∀ {x : AV} {y : Value}, VA H.length L x y → VA (H ++ [PO.rows false sz []]).length (upd L H.length ⟨⟨0, 0, 0, sz⟩, fun _ => ⟨0, 0, 0, 0⟩⟩) x y := fun {x y} hx => by
    have := hx.mono (M := []) (N' := (H ++ [PO.rows false sz []]).length) (by simp) g1
    rwa [killA_nil] at this
  refine (h.run B R w0 _ w (v0 :: .slice none 0 0 :: us) g2 ⟨_, _, rfl, hm hv0, _, _, rfl, ⟨by simp, .inl ⟨rfl, rfl, rfl, fun c' hc' => by cases hc'⟩⟩, ?_⟩).mono ?_
  · have := VAs.mono (M := []) (N' := (H ++ [PO.rows false sz []]).length) (by simp) g1 hus
    rwa [show args.map (killA []) = args from (List.map_congr_left fun x _ => killA_nil x).trans (List.map_id _)] at this
  · rintro e w' ⟨u, he, L', x, M, H', k1, k2, k3, k4, k5⟩
    refine ⟨u, he, L', x, M, H', fun i hi hm => ?_, ?_, k3, k4, k5⟩
    · rw [k1 i (by simp; omega) hm, upd_ne (by omega)]
    · simp at k2; omega

theorem Does.row2 {P : Program} {f : FuncId} {a : AV} {args : List AV} {Hl : List PO} {K : AV → List Nat → List PO → Prop} {ro : Bool} {sz n i : Nat} {rss : List (List (List FC))} (rs : List (List FC)) (hi : rss[i]? = some rs) (_hn : rs.length = n)
    (h : Does P f (killA [0] a :: cv (.slc 0 0 n none false) :: args.map (killA [0])) (.rows true sz rs :: Hl.map (killO [0])) fun x M H' => match H' with
      | _ :: Hl' => (ro || noRo Hl') = true ∧ K (killA [0] x) M (.rows2 ro sz rss :: Hl'.map (killO [0]))
      | _ => False) : Does P f (a :: cv (.islc 0 i 0 n none false) :: args) (.rows2 ro sz rss :: Hl) K := by
  refine ⟨h.fn, fun B R w0 L w vs hrel hvs => ?_⟩
  obtain ⟨v0, us0, rfl, hv0, v, us, rfl, ⟨hlt, hh⟩, hus⟩ := hvs
  have hO := hrel.obj 0 _ rfl
  have hilt := (List.getElem?_eq_some_iff.1 hi).1
  have hlen : (PO.rows true sz rs :: Hl.map (killO [0])).length = (PO.rows2 ro sz rss :: Hl).length := by simp
  have hag : Agree (PO.rows2 ro sz rss :: Hl).length [0] L (upd L 0 ⟨(L 0).inn i, (L 0).inn⟩) := fun j _ hm => upd_ne (by simpa using hm)
  have hown0 : ∀ b, Own (.rows2 ro sz rss) (L 0) b ∨ Ro (.rows2 ro sz rss) (L 0) b → b < w.heap.size := fun b hb => by
    rcases hb with hb | hb
    · exact (hrel.own 0 _ b rfl hb).2.1
    · exact hrel.size _ (hrel.sub _ (hrel.ro 0 _ b rfl hb))
  have hrel1 : Rel (fun b => B b ∨ (Own (.rows2 ro sz rss) (L 0) b ∨ Ro (.rows2 ro sz rss) (L 0) b)) (fun b => R b ∨ (Own (.rows2 ro sz rss) (L 0) b ∨ Ro (.rows2 ro sz rss) (L 0) b)) w (upd L 0 ⟨(L 0).inn i, (L 0).inn⟩) (PO.rows true sz rs :: Hl.map (killO [0])) w := by
    refine ⟨Bel.refl _ _, fun k hk => ?_, fun j o hj => ?_, fun j o b hj hb => ?_, fun j o b hj hb => ?_, fun b hb => ?_⟩
    · rcases hk with hk | hk
      · exact hrel.size k hk
      · exact hown0 k hk
    · cases j with
      | zero =>
        simp at hj; subst hj
        obtain ⟨⟨g1, g2, g3, _, g5⟩, _⟩ := hO.2.2.2.1 i rs hi
        rw [upd_self]
        exact ⟨g1, g2, g3, fun hh => by simp at hh, g5⟩
      | succ j =>
        simp only [List.getElem?_cons_succ, List.getElem?_map, Option.map_eq_some_iff] at hj
        obtain ⟨o0, ho0, rfl⟩ := hj
        rw [upd_ne (by omega), hlen]
        exact (hrel.obj (j + 1) o0 (by simpa using ho0)).mono (Nat.le_refl _) hag fun _ _ => rfl
    · cases j with
      | zero => simp at hj; subst hj; exact hb.elim
      | succ j =>
        simp only [List.getElem?_cons_succ, List.getElem?_map, Option.map_eq_some_iff] at hj
        obtain ⟨o0, ho0, rfl⟩ := hj
        rw [upd_ne (by omega), Own_kill] at hb
        obtain ⟨g1, g2, g3⟩ := hrel.own (j + 1) o0 b (by simpa using ho0) hb
        refine ⟨fun hB => ?_, g2, fun j' o' hj' hb' => ?_⟩
        · rcases hB with hB | hB | hB
          · exact g1 hB
          · have := g3 0 _ rfl hB; omega
          · exact g1 (hrel.sub _ (hrel.ro 0 _ b rfl hB))
        · cases j' with
          | zero => simp at hj'; subst hj'; exact hb'.elim
          | succ j' =>
            simp only [List.getElem?_cons_succ, List.getElem?_map, Option.map_eq_some_iff] at hj'
            obtain ⟨o1, ho1, rfl⟩ := hj'
            rw [upd_ne (by omega), Own_kill] at hb'
            exact g3 (j' + 1) o1 (by simpa using ho1) hb'
    · cases j with
      | zero =>
        simp at hj; subst hj
        rw [upd_self] at hb
        right
        cases ro
        · exact .inl (.inr ⟨i, hilt, hb.1, hb.2⟩)
        · exact .inr (.inr ⟨i, hilt, hb.1, hb.2⟩)
      | succ j =>
        simp only [List.getElem?_cons_succ, List.getElem?_map, Option.map_eq_some_iff] at hj
        obtain ⟨o0, ho0, rfl⟩ := hj
        rw [upd_ne (by omega), Ro_kill] at hb
        exact .inl (hrel.ro (j + 1) o0 b (by simpa using ho0) hb)
    · rcases hb with hb | hb
      · exact .inl (hrel.sub b hb)
      · exact .inr hb
  refine (h.run _ _ w _ w (v0 :: v :: us) hrel1 ⟨v0, _, rfl, by rw [hlen]; exact hv0.mono (Nat.le_refl _) hag, v, us, rfl, ⟨by simp, by rw [upd_self]; exact hh⟩, by rw [hlen]; exact VAs.mono (Nat.le_refl _) hag hus⟩).mono ?_
  rintro e w' ⟨u, he, L2, x, M, H', k1, k2, k3, k4, k5⟩
  cases H' with
  | nil => simp at k2
  | cons o' Hl' =>
  obtain ⟨hro, k5⟩ := k5
  have hag2 : Agree (o' :: Hl').length [0] L2 (upd L2 0 (L 0)) := fun j _ hm => upd_ne (by simpa using hm)
  have hag3 : Agree (PO.rows2 ro sz rss :: Hl).length M L (upd L2 0 (L 0)) := fun j hj hm => by
    by_cases h0 : j = 0
    · subst h0; rw [upd_self]
    · rw [upd_ne h0, k1 j (by rw [hlen]; exact hj) hm, upd_ne h0]
  have hlen2 : (PO.rows2 ro sz rss :: Hl'.map (killO [0])).length = (o' :: Hl').length := by simp
  refine ⟨u, he, upd L2 0 (L 0), killA [0] x, M, _, hag3, by rw [hlen] at k2; rw [hlen2]; exact k2, by rw [hlen2]; exact k3.mono (Nat.le_refl _) hag2, ?_, k5⟩
  have hbel : Bel B w w' := ⟨k4.below.os, k4.below.tape, k4.below.output, k4.below.size, fun k hk => k4.below.block k (.inl hk)⟩
  refine ⟨hrel.below.trans hbel, hrel.start, fun j o hj => ?_, fun j o b hj hb => ?_, fun j o b hj hb => ?_, hrel.sub⟩
  · cases j with
    | zero =>
      simp at hj; subst hj
      rw [upd_self]
      exact (hrel.obj 0 _ rfl).mono (M := M) (by rw [hlen] at k2; rw [hlen2]; exact k2) hag3 fun b hb => k4.below.block b (.inr hb)
    | succ j =>
      simp only [List.getElem?_cons_succ, List.getElem?_map, Option.map_eq_some_iff] at hj
      obtain ⟨o0, ho0, rfl⟩ := hj
      rw [upd_ne (by omega), hlen2]
      exact (k4.obj (j + 1) o0 (by simpa using ho0)).mono (Nat.le_refl _) hag2 fun _ _ => rfl
  · cases j with
    | zero =>
      simp at hj; subst hj
      rw [upd_self] at hb
      obtain ⟨g1, g2, _⟩ := hrel.own 0 _ b rfl hb
      refine ⟨g1, Nat.lt_of_lt_of_le g2 hbel.size, fun j' o1 hj' hb' => ?_⟩
      cases j' with
      | zero => rfl
      | succ j' =>
        simp only [List.getElem?_cons_succ, List.getElem?_map, Option.map_eq_some_iff] at hj'
        obtain ⟨o0, ho0, rfl⟩ := hj'
        rw [upd_ne (by omega), Own_kill] at hb'
        exact absurd (.inr (.inl hb)) (k4.own (j' + 1) o0 b (by simpa using ho0) hb').1
    | succ j =>
      simp only [List.getElem?_cons_succ, List.getElem?_map, Option.map_eq_some_iff] at hj
      obtain ⟨o0, ho0, rfl⟩ := hj
      rw [upd_ne (by omega), Own_kill] at hb
      obtain ⟨g1, g2, g3⟩ := k4.own (j + 1) o0 b (by simpa using ho0) hb
      refine ⟨fun hB => g1 (.inl hB), g2, fun j' o1 hj' hb' => ?_⟩
      cases j' with
      | zero =>
        simp at hj'; subst hj'
        rw [upd_self] at hb'
        exact absurd (.inr (.inl hb')) g1
      | succ j' =>
        simp only [List.getElem?_cons_succ, List.getElem?_map, Option.map_eq_some_iff] at hj'
        obtain ⟨o2, ho2, rfl⟩ := hj'
        rw [upd_ne (by omega), Own_kill] at hb'
        exact g3 (j' + 1) o2 (by simpa using ho2) hb'
  · cases j with
    | zero =>
      simp at hj; subst hj
      rw [upd_self] at hb
      exact hrel.ro 0 _ b rfl hb
    | succ j =>
      simp only [List.getElem?_cons_succ, List.getElem?_map, Option.map_eq_some_iff] at hj
      obtain ⟨o0, ho0, rfl⟩ := hj
      rw [upd_ne (by omega), Ro_kill] at hb
      cases ro with
      | false =>
        simp only [Bool.false_or] at hro
        exact absurd hb (noRo_spec hro j o0 _ b ho0)
      | true =>
        rcases k4.ro (j + 1) o0 b (by simpa using ho0) hb with hb | hb | hb
        · exact hb
        · exact hb.elim
        · exact hrel.ro 0 _ b rfl hb

end Go.Mac
end

/- A machine of threads that ask for calls, behind moves. -/
section
open Go Go.Proofs Go.Mac
set_option maxRecDepth 100000
namespace Go.Mac

theorem Does.nilArg4 {P : Program} {f : FuncId} {a1 a2 a3 : AV} {args : List AV} {H : List PO} {K : AV → List Nat → List PO → Prop} (sz : Nat) (hsz : 0 < sz) (h : Does P f (a1 :: a2 :: a3 :: cv (.slc H.length 0 0 none false) :: args) (H ++ [.rows false sz []]) K) :
    Does P f (a1 :: a2 :: a3 :: cv .nilslc :: args) H K := by
  refine ⟨h.fn, fun B R w0 L w vs hrel hvs => ?_⟩
  obtain ⟨v0, us0, rfl, hv0, v1, us1, rfl, hv1, v2, us2, rfl, hv2, v, us, rfl, hv, hus⟩ := hvs
  obtain ⟨g1, g2⟩ := none_sound hrel sz hsz
  obtain rfl : v = .slice none 0 0 := hv
  have hm : ∀ {x : AV} {y : Value}, VA H.length L x y → VA (H ++ [PO.rows false sz []]).length (upd L H.length ⟨⟨0, 0, 0, sz⟩, fun _ => ⟨0, 0, 0, 0⟩⟩) x y := fun {x y} hx => by
    have := hx.mono (M := []) (N' := (H ++ [PO.rows false sz []]).length) (by simp) g1
    rwa [killA_nil] at this
  refine (h.run B R w0 _ w (v0 :: v1 :: v2 :: .slice none 0 0 :: us) g2 ⟨_, _, rfl, hm hv0, _, _, rfl, hm hv1, _, _, rfl, hm hv2, _, _, rfl, ⟨by simp, .inl ⟨rfl, rfl, rfl, fun c' hc' => by cases hc'⟩⟩, ?_⟩).mono ?_
  · have := VAs.mono (M := []) (N' := (H ++ [PO.rows false sz []]).length) (by simp) g1 hus
    rwa [show args.map (killA []) = args from (List.map_congr_left fun x _ => killA_nil x).trans (List.map_id _)] at this
  · rintro e w' ⟨u, he, L', x, M, H', k1, k2, k3, k4, k5⟩
    refine ⟨u, he, L', x, M, H', fun i hi hm => ?_, ?_, k3, k4, k5⟩
    · rw [k1 i (by simp; omega) hm, upd_ne (by omega)]
    · simp at k2; omega

abbrev callsH (ro : Bool) (ls : List (List CallZ)) : PO := .rows2 ro 2 (ls.map fun l => l.map rowCallZ)

section
variable {K : AV → List Nat → List PO → Prop}

end
end Go.Mac
end
