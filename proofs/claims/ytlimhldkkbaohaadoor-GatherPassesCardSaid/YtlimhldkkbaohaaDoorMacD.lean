/- Texts that belong together; the first of them: The machine of abstract values, part 9: from what a call does to what a row asks. -/
import Derived.Test.YtlimhldkkbaohaaDoorMacC
import Derived.WalkKit
import Derived.ProofKit
import Derived.OpenShut
import Derived.Below
import Derived.ChangeSame
import Derived.WideKeyArgs
import Derived.Lib.SmallJoins

/- The machine of abstract values, part 9: from what a call does to what a row asks. -/
section
namespace Go.Mac
open Go Go.ChangeShapes Go.WideShapes Go.ChangeAt Go.RowKit

theorem Bel.toBelow {w w' : World} (h : Bel (· < w.heap.size) w w') : Below w.heap.size w w' := ⟨h.os, h.tape, h.output, h.size, h.block⟩

/-- How a call begins that is handed what may be looked at alone. -/
theorem Rel.begin {w : World} {L : Nat → Loc} {H : List PO} (h : ∀ (i : Nat) (o : PO), H[i]? = some o → OR H.length L w o (L i) ∧ (∀ b, ¬ Own o (L i) b) ∧ ∀ b, Ro o (L i) b → b < w.heap.size) :
    Rel (· < w.heap.size) (· < w.heap.size) w L H w :=
  ⟨Bel.refl _ _, fun _ hk => hk, fun i o hi => (h i o hi).1, fun i o b hi hb => absurd hb ((h i o hi).2.1 b), fun i o b hi hb => (h i o hi).2.2 b hb, fun _ hb => hb⟩

def noLoc : Nat → Loc := fun _ => ⟨⟨0, 0, 0, 0⟩, fun _ => ⟨0, 0, 0, 0⟩⟩

theorem Rel.begin0 (w : World) : Rel (· < w.heap.size) (· < w.heap.size) w noLoc [] w := Rel.begin fun i o hi => by simp at hi

section
variable {H : Type} {enc : TypeId × Value → H} {P : Program}

theorem trodAll_below (hl : laidOutB P = true) {W W' : World} (hb : Below W.heap.size W W') {sp : Nat → Bool} : ∀ {ts : List TypeId} {vs : List Value} {ds : List (DataW H)} {ps : List MemPlace},
    (∀ t ∈ ts, P.readableRec t = true ∧ t < P.types.size) → DataW.TrodAll enc P W 0 (fun _ => true) true ts vs ds ps → (∀ x ∈ ps, x.block < W.heap.size) → (∀ x ∈ ps, sp x.block = true) → DataW.TrodAll enc P W' 0 sp true ts vs ds ps
  | [], vs, ds, ps, _, h, _, _ => by
    obtain ⟨rfl, rfl, rfl⟩ := trodAll_nil h
    exact trodAll_mk0
  | t :: ts, vs, ds, ps, hr, h, hlt, hsp => by
    obtain ⟨v, vs', d, ds', p, q, rfl, rfl, rfl, h0, h1⟩ := trodAll_cons h
    obtain ⟨h2, h3⟩ := hr t (by simp)
    exact trodAll_cons_mk (WideElems.Trod_stays hl h2 h3 h0 (fun x hx => hb.same (hlt x (by simp [hx]))) fun x hx => hsp x (by simp [hx]))
      (trodAll_below hl hb (fun t ht => hr t (by simp [ht])) h1 (fun x hx => hlt x (by simp [hx])) fun x hx => hsp x (by simp [hx]))

/-- WHAT A LAW'S ROW ASKS BEHIND THE CALL: it is true, and nothing that was there has changed. -/
theorem post_true {f : Func} {s : ChangeSpec} {apart fresh handsOn again : Bool} {W W' : World} {args : Array Value} {ds gs : List (DataW H)} {before : List MemPlace} {b : TypeId}
    (hl : laidOutB P = true) (hr0 : (f.params.toList.all fun t => P.readableRec t && Nat.blt t P.types.size) = true) (hres : f.resultTypes = #[b]) (hbool : P.underlying b = some .bool) (hvars : s.vars = [])
    (hW : DataW.Whole enc P f.params.toList s.vars apart W args.toList ds gs before) (hs : s.fn H (ds ++ gs) = { results := [.lit (.bool true)], args := ds }) (hb : Below W.heap.size W W') :
    s.post enc P f apart fresh handsOn again W args (.bool true) W' := by
  have hr : ∀ t ∈ f.params.toList, P.readableRec t = true ∧ t < P.types.size := fun t ht => by
    have := List.all_eq_true.1 hr0 t ht
    simpa [Nat.blt_eq] using this
  have hW0 := hW
  obtain ⟨p, q, hA, hV, hbef, hfz, hnd⟩ := hW
  rw [hvars] at hV
  obtain ⟨rfl, rfl⟩ := trodVars_none hV
  rw [List.append_nil] at hbef
  subst hbef
  have hlt : ∀ x ∈ before, x.block < W.heap.size := fun x hx => hW0.lt x hx
  have hold : ∀ x ∈ before, (fun b => decide (b < W.heap.size)) x.block = true := fun x hx => by simpa using hlt x hx
  have hargs : ∀ sp : Nat → Bool, (∀ x ∈ before, sp x.block = true) → DataW.TrodAll enc P W' 0 sp true f.params.toList args.toList (s.fn H (ds ++ [])).args before := fun sp hsp => by
    rw [hs]; exact trodAll_below hl hb hr hA hlt hsp
  have hresm : ∀ (b : Nat) (sp : Nat → Bool) (hd : Bool), DataW.TrodAll enc P W' b sp hd f.resultTypes.toList ((Value.bool true).resultList f.resultTypes.size) (s.fn H (ds ++ [])).results [] := fun b sp hd => by
    rw [hs, hres]; exact trodAll_mk1 (shut_bool hbool _)
  have hv0 : ∀ sp : Nat → Bool, DataW.TrodVars enc P W' sp s.vars (s.fn H (ds ++ [])).vars [] := fun sp => by rw [hs, hvars]; rfl
  refine ⟨ds, [], before, [], before, [], hW0, hresm _ _ _, hargs _ hold, hv0 _, World.keptBut_mono (fun p hp => ⟨hp, .inr (by simpa using hp)⟩) (hb.frame (· ∈ before)), fun _ => ?_⟩
  refine ⟨?_, _, _, ([] ++ before) ++ [], ⟨[] ++ before, [], trodAll_append (hargs _ (fun _ _ => rfl)) (hresm _ _ _), hv0 _, rfl, ?_, ?_⟩, ?_⟩
  · exact ok_one hres rfl (okWide_bool_mk hbool _)
  · intro b off hp
    have hin : MemPlace.cell b off ∈ before := by simpa using hp
    rw [hb.frozen (hlt _ hin)]
    exact hfz b off hin
  · intro ha
    have := hnd ha
    simpa using this
  · intro p hp _
    simpa using hp
end

section
variable {H : Type} {enc : TypeId × Value → H} {P : Program} {w : World} {base : Nat} {spare : Nat → Bool} {held : Bool}

theorem trod5 {t0 t1 t2 t3 t4 : TypeId} {args : Array Value} {ds : List (DataW H)} {ps : List MemPlace} (h : DataW.TrodAll enc P w base spare held [t0, t1, t2, t3, t4] args.toList ds ps) :
    ∃ v0 v1 v2 v3 v4 d0 d1 d2 d3 d4 p0 p1 p2 p3 p4, args = #[v0, v1, v2, v3, v4] ∧ ds = [d0, d1, d2, d3, d4] ∧ ps = p0 ++ p1 ++ p2 ++ p3 ++ p4 ∧ DataW.Trod enc P w base spare held t0 v0 d0 p0 ∧ DataW.Trod enc P w base spare held t1 v1 d1 p1 ∧ DataW.Trod enc P w base spare held t2 v2 d2 p2 ∧ DataW.Trod enc P w base spare held t3 v3 d3 p3 ∧ DataW.Trod enc P w base spare held t4 v4 d4 p4 := by
  obtain ⟨v0, vs0, d0, ds0, p0, q0, hargs, rfl, rfl, hd0, hr0⟩ := trodAll_cons h
  obtain ⟨v1, vs1, d1, ds1, p1, q1, rfl, rfl, rfl, hd1, hr1⟩ := trodAll_cons hr0
  obtain ⟨v2, vs2, d2, ds2, p2, q2, rfl, rfl, rfl, hd2, hr2⟩ := trodAll_cons hr1
  obtain ⟨v3, vs3, d3, ds3, p3, q3, rfl, rfl, rfl, hd3, hr3⟩ := trodAll_cons hr2
  obtain ⟨v4, vs4, d4, ds4, p4, q4, rfl, rfl, rfl, hd4, hr4⟩ := trodAll_cons hr3
  obtain ⟨rfl, rfl, rfl⟩ := trodAll_nil hr4
  exact ⟨v0, v1, v2, v3, v4, d0, d1, d2, d3, d4, p0, p1, p2, p3, p4, by cases args; simp_all, rfl, by simp, hd0, hd1, hd2, hd3, hd4⟩

theorem trod6 {t0 t1 t2 t3 t4 t5 : TypeId} {args : Array Value} {ds : List (DataW H)} {ps : List MemPlace} (h : DataW.TrodAll enc P w base spare held [t0, t1, t2, t3, t4, t5] args.toList ds ps) :
    ∃ v0 v1 v2 v3 v4 v5 d0 d1 d2 d3 d4 d5 p0 p1 p2 p3 p4 p5, args = #[v0, v1, v2, v3, v4, v5] ∧ ds = [d0, d1, d2, d3, d4, d5] ∧ ps = p0 ++ p1 ++ p2 ++ p3 ++ p4 ++ p5 ∧ DataW.Trod enc P w base spare held t0 v0 d0 p0 ∧ DataW.Trod enc P w base spare held t1 v1 d1 p1 ∧ DataW.Trod enc P w base spare held t2 v2 d2 p2 ∧ DataW.Trod enc P w base spare held t3 v3 d3 p3 ∧ DataW.Trod enc P w base spare held t4 v4 d4 p4 ∧ DataW.Trod enc P w base spare held t5 v5 d5 p5 := by
  obtain ⟨v0, vs0, d0, ds0, p0, q0, hargs, rfl, rfl, hd0, hr0⟩ := trodAll_cons h
  obtain ⟨v1, vs1, d1, ds1, p1, q1, rfl, rfl, rfl, hd1, hr1⟩ := trodAll_cons hr0
  obtain ⟨v2, vs2, d2, ds2, p2, q2, rfl, rfl, rfl, hd2, hr2⟩ := trodAll_cons hr1
  obtain ⟨v3, vs3, d3, ds3, p3, q3, rfl, rfl, rfl, hd3, hr3⟩ := trodAll_cons hr2
  obtain ⟨v4, vs4, d4, ds4, p4, q4, rfl, rfl, rfl, hd4, hr4⟩ := trodAll_cons hr3
  obtain ⟨v5, vs5, d5, ds5, p5, q5, rfl, rfl, rfl, hd5, hr5⟩ := trodAll_cons hr4
  obtain ⟨rfl, rfl, rfl⟩ := trodAll_nil hr5
  exact ⟨v0, v1, v2, v3, v4, v5, d0, d1, d2, d3, d4, d5, p0, p1, p2, p3, p4, p5, by cases args; simp_all, rfl, by simp, hd0, hd1, hd2, hd3, hd4, hd5⟩

theorem trod7 {t0 t1 t2 t3 t4 t5 t6 : TypeId} {args : Array Value} {ds : List (DataW H)} {ps : List MemPlace} (h : DataW.TrodAll enc P w base spare held [t0, t1, t2, t3, t4, t5, t6] args.toList ds ps) :
    ∃ v0 v1 v2 v3 v4 v5 v6 d0 d1 d2 d3 d4 d5 d6 p0 p1 p2 p3 p4 p5 p6, args = #[v0, v1, v2, v3, v4, v5, v6] ∧ ds = [d0, d1, d2, d3, d4, d5, d6] ∧ ps = p0 ++ p1 ++ p2 ++ p3 ++ p4 ++ p5 ++ p6 ∧ DataW.Trod enc P w base spare held t0 v0 d0 p0 ∧ DataW.Trod enc P w base spare held t1 v1 d1 p1 ∧ DataW.Trod enc P w base spare held t2 v2 d2 p2 ∧ DataW.Trod enc P w base spare held t3 v3 d3 p3 ∧ DataW.Trod enc P w base spare held t4 v4 d4 p4 ∧ DataW.Trod enc P w base spare held t5 v5 d5 p5 ∧ DataW.Trod enc P w base spare held t6 v6 d6 p6 := by
  obtain ⟨v0, vs0, d0, ds0, p0, q0, hargs, rfl, rfl, hd0, hr0⟩ := trodAll_cons h
  obtain ⟨v1, vs1, d1, ds1, p1, q1, rfl, rfl, rfl, hd1, hr1⟩ := trodAll_cons hr0
  obtain ⟨v2, vs2, d2, ds2, p2, q2, rfl, rfl, rfl, hd2, hr2⟩ := trodAll_cons hr1
  obtain ⟨v3, vs3, d3, ds3, p3, q3, rfl, rfl, rfl, hd3, hr3⟩ := trodAll_cons hr2
  obtain ⟨v4, vs4, d4, ds4, p4, q4, rfl, rfl, rfl, hd4, hr4⟩ := trodAll_cons hr3
  obtain ⟨v5, vs5, d5, ds5, p5, q5, rfl, rfl, rfl, hd5, hr5⟩ := trodAll_cons hr4
  obtain ⟨v6, vs6, d6, ds6, p6, q6, rfl, rfl, rfl, hd6, hr6⟩ := trodAll_cons hr5
  obtain ⟨rfl, rfl, rfl⟩ := trodAll_nil hr6
  exact ⟨v0, v1, v2, v3, v4, v5, v6, d0, d1, d2, d3, d4, d5, d6, p0, p1, p2, p3, p4, p5, p6, by cases args; simp_all, rfl, by simp, hd0, hd1, hd2, hd3, hd4, hd5, hd6⟩

end

end Go.Mac
end

/- Loops whose rounds leave objects that are wanted under new numbers. -/
section
open Go Go.Proofs Go.Mac
set_option maxRecDepth 100000
namespace Go.Mac

section
variable {B R : Nat → Prop} {w0 : World} {N : Nat} {L : Nat → Loc} {H : List PO} {P : Program} {w : World} {a : Act} {nt N0 : Nat} {T : Tm} {M : List Nat}
  {Q : Ex → Tm → List Nat → List PO → Prop}

/-- Each named temporary is as it stands, under old numbers. -/
def tmR (g : Nat → Nat) (T : Tm) : Tm → Prop
  | [] => True
  | (i, v) :: T0 => lk T i = renA g v ∧ tmR g T T0

theorem tmR_spec {g : Nat → Nat} {T : Tm} : ∀ {T0 : Tm}, tmR g T T0 → ∀ i, lk T0 i = .u ∨ lk T i = renA g (lk T0 i)
  | [], _, _ => .inl rfl
  | (j, v) :: T0, h, i => by
    rw [lk_cons]
    split
    · rename_i hj
      subst hj
      exact .inr h.1
    · exact tmR_spec h.2 i

/-- A state of a loop, its objects under new numbers. -/
structure AtR {α : Type} (N0 : Nat) (tm : α → Tm) (hp : α → List PO) (M0 : List Nat) (T : Tm) (M : List Nat) (H : List PO) (I : α → Prop) : Prop where
  get : ∃ (x : α) (ids : List Nat) (m : Nat), I x ∧ H.length = m ∧ tmR (gmap ids m) T (tm x) ∧ ids.take N0 = List.range N0 ∧ ids.Nodup ∧ (∀ i ∈ ids, i < m) ∧ (hp x).length = ids.length ∧ lowT ids.length (tm x) = true ∧ lowH ids.length (hp x) = true ∧
    (ids.map fun i => H[i]?) = ((hp x).map fun o => some (renO (gmap ids m) o)) ∧ ∀ i ∈ M, i ∈ M0

theorem AtR.use {α : Type} {tm : α → Tm} {hp : α → List PO} {M0 : List Nat} {I : α → Prop} (h : AtR N0 tm hp M0 T M H I) {L0 : Nat → Loc} (hag : Agree N0 M L0 L) (hrel : Rel B R w0 L H w) (ht : TR H.length L nt T a) :
    ∃ L2 x, I x ∧ N0 ≤ (hp x).length ∧ Agree N0 M0 L0 L2 ∧ Rel B R w0 L2 (hp x) w ∧ TR (hp x).length L2 nt (tm x) a := by
  obtain ⟨x, ids, m, hI, hm, hT, hr, hnd, hlt, hl, hlo, hlh, hH, hM⟩ := h.get
  subst hm
  have hlen : N0 ≤ ids.length := by
    have := congrArg List.length hr
    simp at this
    omega
  refine ⟨fun i => L (gmap ids H.length i), x, hI, by omega, fun i hi hm => ?_, ?_, ?_, ht.defers, ht.room⟩
  · rw [← hag i hi fun h => hm (hM i h)]
    have : ids[i]? = some i := by
      have h5 := congrArg (·[i]?) hr
      simp only [List.getElem?_take_of_lt (show i < N0 by omega), List.getElem?_range (show i < N0 by omega)] at h5
      exact h5
    show L (gmap ids H.length i) = _
    rw [gmap_some this]
  · refine hrel.keep ids hnd hlt (hp x) hl hlh fun k j o hk ho => ?_
    have := congrArg (·[k]?) hH
    simp only [List.getElem?_map, hk, ho, Option.map_some, Option.some.injEq] at this
    exact this
  · intro i
    rcases tmR_spec hT i with e | e
    · rw [e]; trivial
    · rw [hl]
      refine VA.unren (g := gmap ids H.length) (N := H.length) (fun i hi => ?_) (lowT_spec hlo i) (by rw [← e]; exact ht.get i)
      rw [gmap_some (j := ids[i]) (by simp [hi])]
      exact hlt _ (List.getElem_mem hi)

/-- A LOOP, as SS.loop; what a round leaves is told under new numbers. -/
theorem SS.loopR {c : Code} {α : Type} (I : α → Prop) (tm : α → Tm) (hp : α → List PO) (μ : α → Nat) (M0 : List Nat) (h0 : At N0 tm hp M0 T M H I)
    (hr : ∀ x, I x → SS P nt N0 c (tm x) M0 (hp x) fun e T' M' H' => match e with
      | .normal => AtR N0 tm hp M0 T' M' H' fun y => I y ∧ μ y < μ x
      | e => Q e T' M' H') : SS P nt N0 (.loop c) T M H Q := by
  refine ⟨fun B R w0 L0 L w a R0 h1 h2 h3 h4 h5 => ?_⟩
  let J : Nat → Act → World → Prop := fun n a' w' => ∃ L' x, N0 ≤ (hp x).length ∧ Agree N0 M0 L0 L' ∧ Rel B R w0 L' (hp x) w' ∧ TR (hp x).length L' nt (tm x) a' ∧ I x ∧ μ x = n
  let m : Act → World → Nat := fun a' w' => Classical.epsilon fun n => J n a' w' ∧ ∀ m, J m a' w' → n ≤ m
  have hm : ∀ n a' w', J n a' w' → J (m a' w') a' w' ∧ m a' w' ≤ n := by
    intro n a' w' hj
    have hex : ∃ n, J n a' w' ∧ ∀ m, J m a' w' → n ≤ m := by
      clear hr h0 h5
      induction n using Nat.strongRecOn with
      | _ n ih =>
        by_cases hm : ∃ m, m < n ∧ J m a' w'
        · obtain ⟨m, hlt, hpm⟩ := hm
          exact ih m hlt hpm
        · exact ⟨n, hj, fun m hpm => Nat.le_of_not_lt fun hlt => hm ⟨m, hlt, hpm⟩⟩
    have hs : J (m a' w') a' w' ∧ ∀ k, J k a' w' → m a' w' ≤ k := Classical.epsilon_spec hex
    exact ⟨hs.1, hs.2 n hj⟩
  obtain ⟨x0, hI0, g1, g2, g3, g4⟩ := h0.use h2 h3 h4
  refine wp_loop (fun a' w' => ∃ n, J n a' w') m ⟨_, L, x0, g1, g2, g3, g4, hI0, rfl⟩ ?_
  rintro a1 w1 ⟨n1, hj1⟩
  obtain ⟨⟨L1, x1, k1, k2, k3, k4, k5, k6⟩, _⟩ := hm n1 a1 w1 hj1
  refine (hr x1 k5).run B R w0 L0 L1 w1 a1 _ k1 k2 k3 k4 ?_
  intro e L' T' M' H' w' a' j1 j2 j3 j4 j5
  cases e with
  | normal =>
    obtain ⟨L2, x2, ⟨hI2, hlt⟩, i1, i2, i3, i4⟩ := AtR.use j5 j2 j3 j4
    have hj2 : J (μ x2) a' w' := ⟨L2, x2, i1, i2, i3, i4, hI2, rfl⟩
    have := (hm _ a' w' hj2).2
    exact ⟨⟨_, hj2⟩, by omega⟩
  | exit i => exact h5 (.exit i) L' T' M' H' w' a' j1 j2 j3 j4 j5
  | ret => exact h5 .ret L' T' M' H' w' a' j1 j2 j3 j4 j5

theorem AtR.mk' {α : Type} {tm : α → Tm} {hp : α → List PO} {M0 : List Nat} {I : α → Prop} (ids : List Nat) (m : Nat) (x : α) (hI : I x) (hm : H.length = m) (hT : tmR (gmap ids m) T (tm x)) (hr : ids.take N0 = List.range N0) (hnd : ids.Nodup) (hlt : ∀ i ∈ ids, i < m)
    (hl : (hp x).length = ids.length) (hlo : lowT ids.length (tm x) = true) (hlh : lowH ids.length (hp x) = true) (hH : (ids.map fun i => H[i]?) = ((hp x).map fun o => some (renO (gmap ids m) o))) (hM : ∀ i ∈ M, i ∈ M0) : AtR N0 tm hp M0 T M H I :=
  ⟨x, ids, m, hI, hm, hT, hr, hnd, hlt, hl, hlo, hlh, hH, hM⟩

end
end Go.Mac
end
