/- The machine of abstract values, part 9: from what a call does to what a row asks. -/
import Derived.Test.YtgmflgcifhaeiaaMacBits
import Derived.WalkKit
import Derived.ProofKit
import Derived.OpenShut
import Derived.Below
import Derived.ChangeSame
import Derived.WideKeyArgs
import Derived.Lib.SmallJoins
namespace Go.Mac
open Go Go.ChangeShapes Go.WideShapes Go.ChangeAt Go.RowKit

theorem Bel.toBelow {w w' : World} (h : Bel (· < w.heap.size) w w') : Below w.heap.size w w' := ⟨h.os, h.tape, h.output, h.size, h.block⟩

/-- How a call begins that is handed what may be looked at alone. -/
theorem Rel.begin {w : World} {L : Nat → Loc} {H : List PO} (h : ∀ (i : Nat) (o : PO), H[i]? = some o → OR H.length L w o (L i) ∧ (∀ b, ¬ Own o (L i) b) ∧ ∀ b, Ro o (L i) b → b < w.heap.size) :
    Rel (· < w.heap.size) (· < w.heap.size) w L H w :=
  ⟨Bel.refl _ _, fun _ hk => hk, fun i o hi => (h i o hi).1, fun i o b hi hb => absurd hb ((h i o hi).2.1 b), fun i o b hi hb => (h i o hi).2.2 b hb, fun _ hb => hb⟩

def noLoc : Nat → Loc := fun _ => ⟨⟨0, 0, 0, 0⟩, fun _ => ⟨0, 0, 0, 0⟩⟩

theorem Rel.begin0 (w : World) : Rel (· < w.heap.size) (· < w.heap.size) w noLoc [] w := Rel.begin fun i o hi => by simp at hi

section
variable {H : Type} {enc : TypeId × Value → H} {P : Program}

theorem trodAll_below (hl : laidOutB P = true) {W W' : World} (hb : Below W.heap.size W W') {sp : Nat → Bool} : ∀ {ts : List TypeId} {vs : List Value} {ds : List (DataW H)} {ps : List MemPlace},
    (∀ t ∈ ts, P.readableRec t = true ∧ t < P.types.size) → DataW.TrodAll enc P W 0 (fun _ => true) true ts vs ds ps → (∀ x ∈ ps, x.block < W.heap.size) → (∀ x ∈ ps, sp x.block = true) → DataW.TrodAll enc P W' 0 sp true ts vs ds ps
  | [], vs, ds, ps, _, h, _, _ => by
    obtain ⟨rfl, rfl, rfl⟩ := trodAll_nil h
    exact trodAll_mk0
  | t :: ts, vs, ds, ps, hr, h, hlt, hsp => by
    obtain ⟨v, vs', d, ds', p, q, rfl, rfl, rfl, h0, h1⟩ := trodAll_cons h
    obtain ⟨h2, h3⟩ := hr t (by simp)
    exact trodAll_cons_mk (WideElems.Trod_stays hl h2 h3 h0 (fun x hx => hb.same (hlt x (by simp [hx]))) fun x hx => hsp x (by simp [hx]))
      (trodAll_below hl hb (fun t ht => hr t (by simp [ht])) h1 (fun x hx => hlt x (by simp [hx])) fun x hx => hsp x (by simp [hx]))

/-- WHAT A LAW'S ROW ASKS BEHIND THE CALL: it is true, and nothing that was there has changed. -/
theorem post_true {f : Func} {s : ChangeSpec} {apart fresh handsOn again : Bool} {W W' : World} {args : Array Value} {ds gs : List (DataW H)} {before : List MemPlace} {b : TypeId}
    (hl : laidOutB P = true) (hr0 : (f.params.toList.all fun t => P.readableRec t && Nat.blt t P.types.size) = true) (hres : f.resultTypes = #[b]) (hbool : P.underlying b = some .bool) (hvars : s.vars = [])
    (hW : DataW.Whole enc P f.params.toList s.vars apart W args.toList ds gs before) (hs : s.fn H (ds ++ gs) = { results := [.lit (.bool true)], args := ds }) (hb : Below W.heap.size W W') :
    s.post enc P f apart fresh handsOn again W args (.bool true) W' := by
  have hr : ∀ t ∈ f.params.toList, P.readableRec t = true ∧ t < P.types.size := fun t ht => by
    have := List.all_eq_true.1 hr0 t ht
    simpa [Nat.blt_eq] using this
  have hW0 := hW
  obtain ⟨p, q, hA, hV, hbef, hfz, hnd⟩ := hW
  rw [hvars] at hV
  obtain ⟨rfl, rfl⟩ := trodVars_none hV
  rw [List.append_nil] at hbef
  subst hbef
  have hlt : ∀ x ∈ before, x.block < W.heap.size := fun x hx => hW0.lt x hx
  have hold : ∀ x ∈ before, (fun b => decide (b < W.heap.size)) x.block = true := fun x hx => by simpa using hlt x hx
  have hargs : ∀ sp : Nat → Bool, (∀ x ∈ before, sp x.block = true) → DataW.TrodAll enc P W' 0 sp true f.params.toList args.toList (s.fn H (ds ++ [])).args before := fun sp hsp => by
    rw [hs]; exact trodAll_below hl hb hr hA hlt hsp
  have hresm : ∀ (b : Nat) (sp : Nat → Bool) (hd : Bool), DataW.TrodAll enc P W' b sp hd f.resultTypes.toList ((Value.bool true).resultList f.resultTypes.size) (s.fn H (ds ++ [])).results [] := fun b sp hd => by
    rw [hs, hres]; exact trodAll_mk1 (shut_bool hbool _)
  have hv0 : ∀ sp : Nat → Bool, DataW.TrodVars enc P W' sp s.vars (s.fn H (ds ++ [])).vars [] := fun sp => by rw [hs, hvars]; rfl
  refine ⟨ds, [], before, [], before, [], hW0, hresm _ _ _, hargs _ hold, hv0 _, World.keptBut_mono (fun p hp => ⟨hp, .inr (by simpa using hp)⟩) (hb.frame (· ∈ before)), fun _ => ?_⟩
  refine ⟨?_, _, _, ([] ++ before) ++ [], ⟨[] ++ before, [], trodAll_append (hargs _ (fun _ _ => rfl)) (hresm _ _ _), hv0 _, rfl, ?_, ?_⟩, ?_⟩
  · exact ok_one hres rfl (okWide_bool_mk hbool _)
  · intro b off hp
    have hin : MemPlace.cell b off ∈ before := by simpa using hp
    rw [hb.frozen (hlt _ hin)]
    exact hfz b off hin
  · intro ha
    have := hnd ha
    simpa using this
  · intro p hp _
    simpa using hp
end

end Go.Mac
