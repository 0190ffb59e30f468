/- In the middle of a function: slices that were made one by one are a slice of slices from here on. -/
import Derived.Test.YtlimhldkkbaohaaDoorMacLift
open Go Go.Proofs Go.Mac
set_option maxRecDepth 100000
namespace Go.Mac

/-- Temporaries that are to stay: each as it stood; none looks into the r-th object but as a whole. -/
def tmS (r : Nat) (T : Tm) : Tm → Prop
  | [] => True
  | (i, v) :: T0 => lk T i = v ∧ (killA [r] v = v ∨ ∃ n c nn, v = cv (.slc r 0 n c nn)) ∧ tmS r T T0

theorem tmS_spec {r : Nat} {T : Tm} : ∀ {T0 : Tm}, tmS r T T0 → ∀ i, lk T0 i = .u ∨ (lk T i = lk T0 i ∧ (killA [r] (lk T0 i) = lk T0 i ∨ ∃ n c nn, lk T0 i = cv (.slc r 0 n c nn)))
  | [], _, _ => .inl rfl
  | (j, v) :: T0, h, i => by
    rw [lk_cons]
    split
    · rename_i hj
      subst hj
      exact .inr ⟨h.1, h.2.1⟩
    · exact tmS_spec h.2.2 i

theorem SS.shut {P : Program} {nt N0 : Nat} {c : Code} {T : Tm} {M : List Nat} {H : List PO} {Q : Ex → Tm → List Nat → List PO → Prop} (r : Nat) (T2 : Tm) {ap : Bool} {sz : Nat} {es : List (Option (ILoc × List (List FC)))} (rss : List (List (List FC)))
    (hr : H[r]? = some (.rows3 ap sz es)) (hN : N0 ≤ r) (hle : es.length = rss.length) (hes : ∀ (i : Nat) (rs : List (List FC)), rss[i]? = some rs → ∃ l, es[i]? = some (some (l, rs)))
    (hH : (H.set r .gone).map (killO [r]) = H.set r .gone) (hT : tmS r T T2) (h : SS P nt N0 c T2 M (H.set r (.rows2 false sz rss)) Q) : SS P nt N0 c T M H Q := by
  refine ⟨fun B R w0 L0 L w a R0 h1 h2 h3 h4 h5 => ?_⟩
  have hrl := (List.getElem?_eq_some_iff.1 hr).1
  let inn : Nat → ILoc := fun i => match es[i]? with
    | some (some p) => p.1
    | _ => ⟨0, 0, 0, sz⟩
  have hinn : ∀ (i : Nat) (l : ILoc) (rs : List (List FC)), es[i]? = some (some (l, rs)) → inn i = l := fun i l rs hi => by simp only [inn, hi]
  obtain ⟨c1, c2, c3, c4⟩ := h3.obj _ _ hr
  have hget : ∀ (i : Nat), i < rss.length → ∃ p, es[i]? = some (some p) ∧ inn i = p.1 ∧ rss[i]? = some p.2 := fun i hi => by
    obtain ⟨l, hl⟩ := hes i rss[i] (List.getElem?_eq_getElem hi)
    exact ⟨_, hl, hinn i _ _ hl, List.getElem?_eq_getElem hi⟩
  have hag : Agree H.length [r] L (upd L r ⟨(L r).h, inn⟩) := fun j _ hm => upd_ne (by simpa using hm)
  refine h.run B R w0 L0 (upd L r ⟨(L r).h, inn⟩) w a R0 (by rw [List.length_set]; exact h1) (fun j hj hm => (upd_ne (by omega)).trans (h2 j hj hm)) ?_ ?_ h5
  · refine h3.put (M := [r]) r (.rows2 false sz rss) (by simp) (List.getElem?_set_self hrl) (fun j hj o ho => ?_) hag (fun j hj => upd_ne hj) (Bel.refl _ _) (fun _ _ => .inl rfl) (fun b hb => ?_) (fun b hb => hb.elim) ?_
    · rw [List.getElem?_set_ne (Ne.symm hj)] at ho
      refine ⟨o, ho, ?_⟩
      have := congrArg (·[j]?) hH
      simp only [List.getElem?_map, List.getElem?_set_ne (Ne.symm hj), ho] at this
      exact (Option.some.inj this).symm
    · have ho : Own (.rows3 ap sz es) (L r) b := by
        rw [upd_self] at hb
        rcases hb with hb | ⟨i, hi, hc, rfl⟩
        · exact .inl hb
        · obtain ⟨p, hp, hpi, _⟩ := hget i hi
          have hc : (inn i).cap ≠ 0 := hc
          rw [hpi] at hc
          refine .inr ⟨i, p, hp, hc, ?_⟩
          show (inn i).blk = _
          rw [hpi]
      obtain ⟨k1, k2, _⟩ := h3.own _ _ _ hr ho
      exact ⟨k1, k2, .inr ⟨_, hr, ho⟩⟩
    · rw [upd_self]
      refine ⟨c1, by rw [← hle]; exact c2, fun _ hc => c3 hc, fun i rs hi => ?_, fun _ hc i hi hci => ?_⟩
      · obtain ⟨l, hli⟩ := hes i rs hi
        obtain ⟨d1, ⟨u, d2, d3⟩, _⟩ := c4 i _ hli
        show RowsAt w true sz rs (inn i) ∧ ∃ v, _ ∧ Hdr (inn i) 0 rs.length none false v
        rw [hinn i _ _ hli]
        exact ⟨d1, u, d2, d3⟩
      · obtain ⟨p, hp, hpi, _⟩ := hget i hi
        have hci : (inn i).cap ≠ 0 := hci
        show (inn i).blk ≠ _
        rw [hpi] at hci ⊢
        exact ((c4 i p hp).2.2 hci).1 hc
  · refine ⟨fun i => ?_, h4.defers, h4.room⟩
    rw [List.length_set]
    rcases tmS_spec hT i with e | ⟨e, hk | ⟨n, c, nn, hk⟩⟩
    · rw [e]; trivial
    · have := VA.mono (Nat.le_refl _) hag (h4.get i)
      rw [e, hk] at this
      exact this
    · have := h4.get i
      rw [e, hk] at this
      rw [hk]
      obtain ⟨k1, k2⟩ := this
      refine ⟨k1, ?_⟩
      rw [upd_self]
      exact k2

end Go.Mac
