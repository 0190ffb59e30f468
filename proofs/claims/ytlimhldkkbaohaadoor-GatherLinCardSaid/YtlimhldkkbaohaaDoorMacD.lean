/- Texts that belong together; the first of them: The machine of abstract values, part 9: from what a call does to what a row asks. -/
import Derived.Test.YtlimhldkkbaohaaDoorMacC
import Derived.WalkKit
import Derived.ProofKit
import Derived.OpenShut
import Derived.Below
import Derived.ChangeSame
import Derived.WideKeyArgs
import Derived.Lib.SmallJoins

/- The machine of abstract values, part 9: from what a call does to what a row asks. -/
section
namespace Go.Mac
open Go Go.ChangeShapes Go.WideShapes Go.ChangeAt Go.RowKit

theorem Bel.toBelow {w w' : World} (h : Bel (· < w.heap.size) w w') : Below w.heap.size w w' := ⟨h.os, h.tape, h.output, h.size, h.block⟩

/-- How a call begins that is handed what may be looked at alone. -/
theorem Rel.begin {w : World} {L : Nat → Loc} {H : List PO} (h : ∀ (i : Nat) (o : PO), H[i]? = some o → OR H.length L w o (L i) ∧ (∀ b, ¬ Own o (L i) b) ∧ ∀ b, Ro o (L i) b → b < w.heap.size) :
    Rel (· < w.heap.size) (· < w.heap.size) w L H w :=
  ⟨Bel.refl _ _, fun _ hk => hk, fun i o hi => (h i o hi).1, fun i o b hi hb => absurd hb ((h i o hi).2.1 b), fun i o b hi hb => (h i o hi).2.2 b hb, fun _ hb => hb⟩

def noLoc : Nat → Loc := fun _ => ⟨⟨0, 0, 0, 0⟩, fun _ => ⟨0, 0, 0, 0⟩⟩

theorem Rel.begin0 (w : World) : Rel (· < w.heap.size) (· < w.heap.size) w noLoc [] w := Rel.begin fun i o hi => by simp at hi

section
variable {H : Type} {enc : TypeId × Value → H} {P : Program}

theorem trodAll_below (hl : laidOutB P = true) {W W' : World} (hb : Below W.heap.size W W') {sp : Nat → Bool} : ∀ {ts : List TypeId} {vs : List Value} {ds : List (DataW H)} {ps : List MemPlace},
    (∀ t ∈ ts, P.readableRec t = true ∧ t < P.types.size) → DataW.TrodAll enc P W 0 (fun _ => true) true ts vs ds ps → (∀ x ∈ ps, x.block < W.heap.size) → (∀ x ∈ ps, sp x.block = true) → DataW.TrodAll enc P W' 0 sp true ts vs ds ps
  | [], vs, ds, ps, _, h, _, _ => by
    obtain ⟨rfl, rfl, rfl⟩ := trodAll_nil h
    exact trodAll_mk0
  | t :: ts, vs, ds, ps, hr, h, hlt, hsp => by
    obtain ⟨v, vs', d, ds', p, q, rfl, rfl, rfl, h0, h1⟩ := trodAll_cons h
    obtain ⟨h2, h3⟩ := hr t (by simp)
    exact trodAll_cons_mk (WideElems.Trod_stays hl h2 h3 h0 (fun x hx => hb.same (hlt x (by simp [hx]))) fun x hx => hsp x (by simp [hx]))
      (trodAll_below hl hb (fun t ht => hr t (by simp [ht])) h1 (fun x hx => hlt x (by simp [hx])) fun x hx => hsp x (by simp [hx]))

/-- WHAT A LAW'S ROW ASKS BEHIND THE CALL: it is true, and nothing that was there has changed. -/
theorem post_true {f : Func} {s : ChangeSpec} {apart fresh handsOn again : Bool} {W W' : World} {args : Array Value} {ds gs : List (DataW H)} {before : List MemPlace} {b : TypeId}
    (hl : laidOutB P = true) (hr0 : (f.params.toList.all fun t => P.readableRec t && Nat.blt t P.types.size) = true) (hres : f.resultTypes = #[b]) (hbool : P.underlying b = some .bool) (hvars : s.vars = [])
    (hW : DataW.Whole enc P f.params.toList s.vars apart W args.toList ds gs before) (hs : s.fn H (ds ++ gs) = { results := [.lit (.bool true)], args := ds }) (hb : Below W.heap.size W W') :
    s.post enc P f apart fresh handsOn again W args (.bool true) W' := by
  have hr : ∀ t ∈ f.params.toList, P.readableRec t = true ∧ t < P.types.size := fun t ht => by
    have := List.all_eq_true.1 hr0 t ht
    simpa [Nat.blt_eq] using this
  have hW0 := hW
  obtain ⟨p, q, hA, hV, hbef, hfz, hnd⟩ := hW
  rw [hvars] at hV
  obtain ⟨rfl, rfl⟩ := trodVars_none hV
  rw [List.append_nil] at hbef
  subst hbef
  have hlt : ∀ x ∈ before, x.block < W.heap.size := fun x hx => hW0.lt x hx
  have hold : ∀ x ∈ before, (fun b => decide (b < W.heap.size)) x.block = true := fun x hx => by simpa using hlt x hx
  have hargs : ∀ sp : Nat → Bool, (∀ x ∈ before, sp x.block = true) → DataW.TrodAll enc P W' 0 sp true f.params.toList args.toList (s.fn H (ds ++ [])).args before := fun sp hsp => by
    rw [hs]; exact trodAll_below hl hb hr hA hlt hsp
  have hresm : ∀ (b : Nat) (sp : Nat → Bool) (hd : Bool), DataW.TrodAll enc P W' b sp hd f.resultTypes.toList ((Value.bool true).resultList f.resultTypes.size) (s.fn H (ds ++ [])).results [] := fun b sp hd => by
    rw [hs, hres]; exact trodAll_mk1 (shut_bool hbool _)
  have hv0 : ∀ sp : Nat → Bool, DataW.TrodVars enc P W' sp s.vars (s.fn H (ds ++ [])).vars [] := fun sp => by rw [hs, hvars]; rfl
  refine ⟨ds, [], before, [], before, [], hW0, hresm _ _ _, hargs _ hold, hv0 _, World.keptBut_mono (fun p hp => ⟨hp, .inr (by simpa using hp)⟩) (hb.frame (· ∈ before)), fun _ => ?_⟩
  refine ⟨?_, _, _, ([] ++ before) ++ [], ⟨[] ++ before, [], trodAll_append (hargs _ (fun _ _ => rfl)) (hresm _ _ _), hv0 _, rfl, ?_, ?_⟩, ?_⟩
  · exact ok_one hres rfl (okWide_bool_mk hbool _)
  · intro b off hp
    have hin : MemPlace.cell b off ∈ before := by simpa using hp
    rw [hb.frozen (hlt _ hin)]
    exact hfz b off hin
  · intro ha
    have := hnd ha
    simpa using this
  · intro p hp _
    simpa using hp
end

section
variable {H : Type} {enc : TypeId × Value → H} {P : Program} {w : World} {base : Nat} {spare : Nat → Bool} {held : Bool}

theorem trod5 {t0 t1 t2 t3 t4 : TypeId} {args : Array Value} {ds : List (DataW H)} {ps : List MemPlace} (h : DataW.TrodAll enc P w base spare held [t0, t1, t2, t3, t4] args.toList ds ps) :
    ∃ v0 v1 v2 v3 v4 d0 d1 d2 d3 d4 p0 p1 p2 p3 p4, args = #[v0, v1, v2, v3, v4] ∧ ds = [d0, d1, d2, d3, d4] ∧ ps = p0 ++ p1 ++ p2 ++ p3 ++ p4 ∧ DataW.Trod enc P w base spare held t0 v0 d0 p0 ∧ DataW.Trod enc P w base spare held t1 v1 d1 p1 ∧ DataW.Trod enc P w base spare held t2 v2 d2 p2 ∧ DataW.Trod enc P w base spare held t3 v3 d3 p3 ∧ DataW.Trod enc P w base spare held t4 v4 d4 p4 := by
  obtain ⟨v0, vs0, d0, ds0, p0, q0, hargs, rfl, rfl, hd0, hr0⟩ := trodAll_cons h
  obtain ⟨v1, vs1, d1, ds1, p1, q1, rfl, rfl, rfl, hd1, hr1⟩ := trodAll_cons hr0
  obtain ⟨v2, vs2, d2, ds2, p2, q2, rfl, rfl, rfl, hd2, hr2⟩ := trodAll_cons hr1
  obtain ⟨v3, vs3, d3, ds3, p3, q3, rfl, rfl, rfl, hd3, hr3⟩ := trodAll_cons hr2
  obtain ⟨v4, vs4, d4, ds4, p4, q4, rfl, rfl, rfl, hd4, hr4⟩ := trodAll_cons hr3
  obtain ⟨rfl, rfl, rfl⟩ := trodAll_nil hr4
  exact ⟨v0, v1, v2, v3, v4, d0, d1, d2, d3, d4, p0, p1, p2, p3, p4, by cases args; simp_all, rfl, by simp, hd0, hd1, hd2, hd3, hd4⟩

theorem trod6 {t0 t1 t2 t3 t4 t5 : TypeId} {args : Array Value} {ds : List (DataW H)} {ps : List MemPlace} (h : DataW.TrodAll enc P w base spare held [t0, t1, t2, t3, t4, t5] args.toList ds ps) :
    ∃ v0 v1 v2 v3 v4 v5 d0 d1 d2 d3 d4 d5 p0 p1 p2 p3 p4 p5, args = #[v0, v1, v2, v3, v4, v5] ∧ ds = [d0, d1, d2, d3, d4, d5] ∧ ps = p0 ++ p1 ++ p2 ++ p3 ++ p4 ++ p5 ∧ DataW.Trod enc P w base spare held t0 v0 d0 p0 ∧ DataW.Trod enc P w base spare held t1 v1 d1 p1 ∧ DataW.Trod enc P w base spare held t2 v2 d2 p2 ∧ DataW.Trod enc P w base spare held t3 v3 d3 p3 ∧ DataW.Trod enc P w base spare held t4 v4 d4 p4 ∧ DataW.Trod enc P w base spare held t5 v5 d5 p5 := by
  obtain ⟨v0, vs0, d0, ds0, p0, q0, hargs, rfl, rfl, hd0, hr0⟩ := trodAll_cons h
  obtain ⟨v1, vs1, d1, ds1, p1, q1, rfl, rfl, rfl, hd1, hr1⟩ := trodAll_cons hr0
  obtain ⟨v2, vs2, d2, ds2, p2, q2, rfl, rfl, rfl, hd2, hr2⟩ := trodAll_cons hr1
  obtain ⟨v3, vs3, d3, ds3, p3, q3, rfl, rfl, rfl, hd3, hr3⟩ := trodAll_cons hr2
  obtain ⟨v4, vs4, d4, ds4, p4, q4, rfl, rfl, rfl, hd4, hr4⟩ := trodAll_cons hr3
  obtain ⟨v5, vs5, d5, ds5, p5, q5, rfl, rfl, rfl, hd5, hr5⟩ := trodAll_cons hr4
  obtain ⟨rfl, rfl, rfl⟩ := trodAll_nil hr5
  exact ⟨v0, v1, v2, v3, v4, v5, d0, d1, d2, d3, d4, d5, p0, p1, p2, p3, p4, p5, by cases args; simp_all, rfl, by simp, hd0, hd1, hd2, hd3, hd4, hd5⟩

theorem trod7 {t0 t1 t2 t3 t4 t5 t6 : TypeId} {args : Array Value} {ds : List (DataW H)} {ps : List MemPlace} (h : DataW.TrodAll enc P w base spare held [t0, t1, t2, t3, t4, t5, t6] args.toList ds ps) :
    ∃ v0 v1 v2 v3 v4 v5 v6 d0 d1 d2 d3 d4 d5 d6 p0 p1 p2 p3 p4 p5 p6, args = #[v0, v1, v2, v3, v4, v5, v6] ∧ ds = [d0, d1, d2, d3, d4, d5, d6] ∧ ps = p0 ++ p1 ++ p2 ++ p3 ++ p4 ++ p5 ++ p6 ∧ DataW.Trod enc P w base spare held t0 v0 d0 p0 ∧ DataW.Trod enc P w base spare held t1 v1 d1 p1 ∧ DataW.Trod enc P w base spare held t2 v2 d2 p2 ∧ DataW.Trod enc P w base spare held t3 v3 d3 p3 ∧ DataW.Trod enc P w base spare held t4 v4 d4 p4 ∧ DataW.Trod enc P w base spare held t5 v5 d5 p5 ∧ DataW.Trod enc P w base spare held t6 v6 d6 p6 := by
  obtain ⟨v0, vs0, d0, ds0, p0, q0, hargs, rfl, rfl, hd0, hr0⟩ := trodAll_cons h
  obtain ⟨v1, vs1, d1, ds1, p1, q1, rfl, rfl, rfl, hd1, hr1⟩ := trodAll_cons hr0
  obtain ⟨v2, vs2, d2, ds2, p2, q2, rfl, rfl, rfl, hd2, hr2⟩ := trodAll_cons hr1
  obtain ⟨v3, vs3, d3, ds3, p3, q3, rfl, rfl, rfl, hd3, hr3⟩ := trodAll_cons hr2
  obtain ⟨v4, vs4, d4, ds4, p4, q4, rfl, rfl, rfl, hd4, hr4⟩ := trodAll_cons hr3
  obtain ⟨v5, vs5, d5, ds5, p5, q5, rfl, rfl, rfl, hd5, hr5⟩ := trodAll_cons hr4
  obtain ⟨v6, vs6, d6, ds6, p6, q6, rfl, rfl, rfl, hd6, hr6⟩ := trodAll_cons hr5
  obtain ⟨rfl, rfl, rfl⟩ := trodAll_nil hr6
  exact ⟨v0, v1, v2, v3, v4, v5, v6, d0, d1, d2, d3, d4, d5, d6, p0, p1, p2, p3, p4, p5, p6, by cases args; simp_all, rfl, by simp, hd0, hd1, hd2, hd3, hd4, hd5, hd6⟩

end

end Go.Mac
end

/- Loops whose rounds leave objects that are wanted under new numbers. -/
section
open Go Go.Proofs Go.Mac
set_option maxRecDepth 100000
namespace Go.Mac

section
variable {B R : Nat → Prop} {w0 : World} {N : Nat} {L : Nat → Loc} {H : List PO} {P : Program} {w : World} {a : Act} {nt N0 : Nat} {T : Tm} {M : List Nat}
  {Q : Ex → Tm → List Nat → List PO → Prop}

/-- Each named temporary is as it stands, under old numbers. -/
def tmR (g : Nat → Nat) (T : Tm) : Tm → Prop
  | [] => True
  | (i, v) :: T0 => lk T i = renA g v ∧ tmR g T T0

theorem tmR_spec {g : Nat → Nat} {T : Tm} : ∀ {T0 : Tm}, tmR g T T0 → ∀ i, lk T0 i = .u ∨ lk T i = renA g (lk T0 i)
  | [], _, _ => .inl rfl
  | (j, v) :: T0, h, i => by
    rw [lk_cons]
    split
    · rename_i hj
      subst hj
      exact .inr h.1
    · exact tmR_spec h.2 i

/-- A state of a loop, its objects under new numbers. -/
structure AtR {α : Type} (N0 : Nat) (tm : α → Tm) (hp : α → List PO) (M0 : List Nat) (T : Tm) (M : List Nat) (H : List PO) (I : α → Prop) : Prop where
  get : ∃ (x : α) (ids : List Nat) (m : Nat), I x ∧ H.length = m ∧ tmR (gmap ids m) T (tm x) ∧ ids.take N0 = List.range N0 ∧ ids.Nodup ∧ (∀ i ∈ ids, i < m) ∧ (hp x).length = ids.length ∧ lowT ids.length (tm x) = true ∧ lowH ids.length (hp x) = true ∧
    (ids.map fun i => H[i]?) = ((hp x).map fun o => some (renO (gmap ids m) o)) ∧ ∀ i ∈ M, i ∈ M0

theorem AtR.use {α : Type} {tm : α → Tm} {hp : α → List PO} {M0 : List Nat} {I : α → Prop} (h : AtR N0 tm hp M0 T M H I) {L0 : Nat → Loc} (hag : Agree N0 M L0 L) (hrel : Rel B R w0 L H w) (ht : TR H.length L nt T a) :
    ∃ L2 x, I x ∧ N0 ≤ (hp x).length ∧ Agree N0 M0 L0 L2 ∧ Rel B R w0 L2 (hp x) w ∧ TR (hp x).length L2 nt (tm x) a := by
  obtain ⟨x, ids, m, hI, hm, hT, hr, hnd, hlt, hl, hlo, hlh, hH, hM⟩ := h.get
  subst hm
  have hlen : N0 ≤ ids.length := by
    have := congrArg List.length hr
    simp at this
    omega
  refine ⟨fun i => L (gmap ids H.length i), x, hI, by omega, fun i hi hm => ?_, ?_, ?_, ht.defers, ht.room⟩
  · rw [← hag i hi fun h => hm (hM i h)]
    have : ids[i]? = some i := by
      have h5 := congrArg (·[i]?) hr
      simp only [List.getElem?_take_of_lt (show i < N0 by omega), List.getElem?_range (show i < N0 by omega)] at h5
      exact h5
    show L (gmap ids H.length i) = _
    rw [gmap_some this]
  · refine hrel.keep ids hnd hlt (hp x) hl hlh fun k j o hk ho => ?_
    have := congrArg (·[k]?) hH
    simp only [List.getElem?_map, hk, ho, Option.map_some, Option.some.injEq] at this
    exact this
  · intro i
    rcases tmR_spec hT i with e | e
    · rw [e]; trivial
    · rw [hl]
      refine VA.unren (g := gmap ids H.length) (N := H.length) (fun i hi => ?_) (lowT_spec hlo i) (by rw [← e]; exact ht.get i)
      rw [gmap_some (j := ids[i]) (by simp [hi])]
      exact hlt _ (List.getElem_mem hi)

/-- A LOOP, as SS.loop; what a round leaves is told under new numbers. -/
theorem SS.loopR {c : Code} {α : Type} (I : α → Prop) (tm : α → Tm) (hp : α → List PO) (μ : α → Nat) (M0 : List Nat) (h0 : At N0 tm hp M0 T M H I)
    (hr : ∀ x, I x → SS P nt N0 c (tm x) M0 (hp x) fun e T' M' H' => match e with
      | .normal => AtR N0 tm hp M0 T' M' H' fun y => I y ∧ μ y < μ x
      | e => Q e T' M' H') : SS P nt N0 (.loop c) T M H Q := by
  refine ⟨fun B R w0 L0 L w a R0 h1 h2 h3 h4 h5 => ?_⟩
  let J : Nat → Act → World → Prop := fun n a' w' => ∃ L' x, N0 ≤ (hp x).length ∧ Agree N0 M0 L0 L' ∧ Rel B R w0 L' (hp x) w' ∧ TR (hp x).length L' nt (tm x) a' ∧ I x ∧ μ x = n
  let m : Act → World → Nat := fun a' w' => Classical.epsilon fun n => J n a' w' ∧ ∀ m, J m a' w' → n ≤ m
  have hm : ∀ n a' w', J n a' w' → J (m a' w') a' w' ∧ m a' w' ≤ n := by
    intro n a' w' hj
    have hex : ∃ n, J n a' w' ∧ ∀ m, J m a' w' → n ≤ m := by
      clear hr h0 h5
      induction n using Nat.strongRecOn with
      | _ n ih =>
        by_cases hm : ∃ m, m < n ∧ J m a' w'
        · obtain ⟨m, hlt, hpm⟩ := hm
          exact ih m hlt hpm
        · exact ⟨n, hj, fun m hpm => Nat.le_of_not_lt fun hlt => hm ⟨m, hlt, hpm⟩⟩
    have hs : J (m a' w') a' w' ∧ ∀ k, J k a' w' → m a' w' ≤ k := Classical.epsilon_spec hex
    exact ⟨hs.1, hs.2 n hj⟩
  obtain ⟨x0, hI0, g1, g2, g3, g4⟩ := h0.use h2 h3 h4
  refine wp_loop (fun a' w' => ∃ n, J n a' w') m ⟨_, L, x0, g1, g2, g3, g4, hI0, rfl⟩ ?_
  rintro a1 w1 ⟨n1, hj1⟩
  obtain ⟨⟨L1, x1, k1, k2, k3, k4, k5, k6⟩, _⟩ := hm n1 a1 w1 hj1
  refine (hr x1 k5).run B R w0 L0 L1 w1 a1 _ k1 k2 k3 k4 ?_
  intro e L' T' M' H' w' a' j1 j2 j3 j4 j5
  cases e with
  | normal =>
    obtain ⟨L2, x2, ⟨hI2, hlt⟩, i1, i2, i3, i4⟩ := AtR.use j5 j2 j3 j4
    have hj2 : J (μ x2) a' w' := ⟨L2, x2, i1, i2, i3, i4, hI2, rfl⟩
    have := (hm _ a' w' hj2).2
    exact ⟨⟨_, hj2⟩, by omega⟩
  | exit i => exact h5 (.exit i) L' T' M' H' w' a' j1 j2 j3 j4 j5
  | ret => exact h5 .ret L' T' M' H' w' a' j1 j2 j3 j4 j5

theorem AtR.mk' {α : Type} {tm : α → Tm} {hp : α → List PO} {M0 : List Nat} {I : α → Prop} (ids : List Nat) (m : Nat) (x : α) (hI : I x) (hm : H.length = m) (hT : tmR (gmap ids m) T (tm x)) (hr : ids.take N0 = List.range N0) (hnd : ids.Nodup) (hlt : ∀ i ∈ ids, i < m)
    (hl : (hp x).length = ids.length) (hlo : lowT ids.length (tm x) = true) (hlh : lowH ids.length (hp x) = true) (hH : (ids.map fun i => H[i]?) = ((hp x).map fun o => some (renO (gmap ids m) o))) (hM : ∀ i ∈ M, i ∈ M0) : AtR N0 tm hp M0 T M H I :=
  ⟨x, ids, m, hI, hm, hT, hr, hnd, hlt, hl, hlo, hlh, hH, hM⟩

end
end Go.Mac
end

/- In the middle of a function: slices that were made one by one are a slice of slices from here on. -/
section
open Go Go.Proofs Go.Mac
set_option maxRecDepth 100000
namespace Go.Mac

/-- Temporaries that are to stay: each as it stood; none looks into the r-th object but as a whole. -/
def tmS (r : Nat) (T : Tm) : Tm → Prop
  | [] => True
  | (i, v) :: T0 => lk T i = v ∧ (killA [r] v = v ∨ ∃ n c nn, v = cv (.slc r 0 n c nn)) ∧ tmS r T T0

theorem tmS_spec {r : Nat} {T : Tm} : ∀ {T0 : Tm}, tmS r T T0 → ∀ i, lk T0 i = .u ∨ (lk T i = lk T0 i ∧ (killA [r] (lk T0 i) = lk T0 i ∨ ∃ n c nn, lk T0 i = cv (.slc r 0 n c nn)))
  | [], _, _ => .inl rfl
  | (j, v) :: T0, h, i => by
    rw [lk_cons]
    split
    · rename_i hj
      subst hj
      exact .inr ⟨h.1, h.2.1⟩
    · exact tmS_spec h.2.2 i

theorem SS.shut {P : Program} {nt N0 : Nat} {c : Code} {T : Tm} {M : List Nat} {H : List PO} {Q : Ex → Tm → List Nat → List PO → Prop} (r : Nat) (T2 : Tm) {ap : Bool} {sz : Nat} {es : List (Option (ILoc × List (List FC)))} (rss : List (List (List FC)))
    (hr : H[r]? = some (.rows3 ap sz es)) (hN : N0 ≤ r) (hle : es.length = rss.length) (hes : ∀ (i : Nat) (rs : List (List FC)), rss[i]? = some rs → ∃ l, es[i]? = some (some (l, rs)))
    (hH : (H.set r .gone).map (killO [r]) = H.set r .gone) (hT : tmS r T T2) (h : SS P nt N0 c T2 M (H.set r (.rows2 false sz rss)) Q) : SS P nt N0 c T M H Q := by
  refine ⟨fun B R w0 L0 L w a R0 h1 h2 h3 h4 h5 => ?_⟩
  have hrl := (List.getElem?_eq_some_iff.1 hr).1
  let inn : Nat → ILoc := fun i => match es[i]? with
    | some (some p) => p.1
    | _ => ⟨0, 0, 0, sz⟩
  have hinn : ∀ (i : Nat) (l : ILoc) (rs : List (List FC)), es[i]? = some (some (l, rs)) → inn i = l := fun i l rs hi => by simp only [inn, hi]
  obtain ⟨c1, c2, c3, c4⟩ := h3.obj _ _ hr
  have hget : ∀ (i : Nat), i < rss.length → ∃ p, es[i]? = some (some p) ∧ inn i = p.1 ∧ rss[i]? = some p.2 := fun i hi => by
    obtain ⟨l, hl⟩ := hes i rss[i] (List.getElem?_eq_getElem hi)
    exact ⟨_, hl, hinn i _ _ hl, List.getElem?_eq_getElem hi⟩
  have hag : Agree H.length [r] L (upd L r ⟨(L r).h, inn⟩) := fun j _ hm => upd_ne (by simpa using hm)
  refine h.run B R w0 L0 (upd L r ⟨(L r).h, inn⟩) w a R0 (by rw [List.length_set]; exact h1) (fun j hj hm => (upd_ne (by omega)).trans (h2 j hj hm)) ?_ ?_ h5
  · refine h3.put (M := [r]) r (.rows2 false sz rss) (by simp) (List.getElem?_set_self hrl) (fun j hj o ho => ?_) hag (fun j hj => upd_ne hj) (Bel.refl _ _) (fun _ _ => .inl rfl) (fun b hb => ?_) (fun b hb => hb.elim) ?_
    · rw [List.getElem?_set_ne (Ne.symm hj)] at ho
      refine ⟨o, ho, ?_⟩
      have := congrArg (·[j]?) hH
      simp only [List.getElem?_map, List.getElem?_set_ne (Ne.symm hj), ho] at this
      exact (Option.some.inj this).symm
    · have ho : Own (.rows3 ap sz es) (L r) b := by
        rw [upd_self] at hb
        rcases hb with hb | ⟨i, hi, hc, rfl⟩
        · exact .inl hb
        · obtain ⟨p, hp, hpi, _⟩ := hget i hi
          have hc : (inn i).cap ≠ 0 := hc
          rw [hpi] at hc
          refine .inr ⟨i, p, hp, hc, ?_⟩
          show (inn i).blk = _
          rw [hpi]
      obtain ⟨k1, k2, _⟩ := h3.own _ _ _ hr ho
      exact ⟨k1, k2, .inr ⟨_, hr, ho⟩⟩
    · rw [upd_self]
      refine ⟨c1, by rw [← hle]; exact c2, fun _ hc => c3 hc, fun i rs hi => ?_, fun _ hc i hi hci => ?_⟩
      · obtain ⟨l, hli⟩ := hes i rs hi
        obtain ⟨d1, ⟨u, d2, d3⟩, _⟩ := c4 i _ hli
        show RowsAt w true sz rs (inn i) ∧ ∃ v, _ ∧ Hdr (inn i) 0 rs.length none false v
        rw [hinn i _ _ hli]
        exact ⟨d1, u, d2, d3⟩
      · obtain ⟨p, hp, hpi, _⟩ := hget i hi
        have hci : (inn i).cap ≠ 0 := hci
        show (inn i).blk ≠ _
        rw [hpi] at hci ⊢
        exact ((c4 i p hp).2.2 hci).1 hc
  · refine ⟨fun i => ?_, h4.defers, h4.room⟩
    rw [List.length_set]
    rcases tmS_spec hT i with e | ⟨e, hk | ⟨n, c, nn, hk⟩⟩
    · rw [e]; trivial
    · have := VA.mono (Nat.le_refl _) hag (h4.get i)
      rw [e, hk] at this
      exact this
    · have := h4.get i
      rw [e, hk] at this
      rw [hk]
      obtain ⟨k1, k2⟩ := this
      refine ⟨k1, ?_⟩
      rw [upd_self]
      exact k2

end Go.Mac
end
