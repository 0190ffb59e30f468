/- A call that is handed a part of rows that are only read: as one that is handed rows of their own. -/
import Derived.Test.YtdcpdfgpdomolaaGreatDoorGBase
open Go Go.Proofs Go.Mac
namespace Go.Mac

section
variable {B R : Nat → Prop} {w0 w : World} {L : Nat → Loc} {H : List PO}

abbrev subLoc (l : Loc) (o sz : Nat) : Loc := ⟨⟨l.h.blk, l.h.base + o * sz, l.h.cap - o, l.h.sz⟩, l.inn⟩

theorem sub_sound (n : Nat) (h : Rel B R w0 L H w) {r sz o : Nat} {rs : List (List FC)} (hr : H[r]? = some (.rows true sz rs)) (ho : o ≤ rs.length) :
    Agree H.length [] L (upd L H.length (subLoc (L r) o sz)) ∧ Rel B R w0 (upd L H.length (subLoc (L r) o sz)) (H ++ [.rows true sz ((rs.drop o).take n)]) w := by
  have hag := upd_agree L (subLoc (L r) o sz) H.length []
  obtain ⟨g1, g2, g3, _, g5⟩ := h.obj r _ hr
  refine ⟨hag, h.put (M := []) H.length (.rows true sz ((rs.drop o).take n)) (by simp) (by simp) (fun j hj o1 ho1 => ?_) hag (fun j hj => upd_ne hj) (Bel.refl _ _) (fun _ _ => .inl rfl) (fun b hb => hb.elim) (fun b hb => ?_) ?_⟩
  · rcases Nat.lt_or_gt_of_ne hj with hl | hg
    · rw [List.getElem?_append_left hl] at ho1
      exact ⟨o1, ho1, (killO_nil o1).symm⟩
    · rw [List.getElem?_eq_none (by simp; omega)] at ho1
      cases ho1
  · rw [upd_self] at hb
    have hb' : (L r).h.cap - o ≠ 0 ∧ b = (L r).h.blk := hb
    exact h.ro r _ b hr ⟨by omega, hb'.2⟩
  · rw [upd_self]
    refine ⟨g1, g2, ?_, fun hh => by simp at hh, fun i row hi => ?_⟩
    · show ((rs.drop o).take n).length ≤ (L r).h.cap - o
      rw [List.length_take, List.length_drop]
      omega
    · rw [List.getElem?_take] at hi
      split at hi
      · rw [List.getElem?_drop] at hi
        obtain ⟨k1, k2⟩ := g5 (o + i) row hi
        refine ⟨k1, fun f x hx => ?_⟩
        rw [← k2 f x hx]
        congr 1
        show Addr.mk _ _ _ = Addr.mk _ _ _
        simp only [g1, Nat.add_mul, Nat.add_assoc]
      · cases hi

theorem sub_hdr {l : Loc} {o n sz : Nat} {c : Option Nat} {nn : Bool} {v : Value} (hs : l.h.sz = sz) (h : Hdr l.h o n c nn v) : Hdr (subLoc l o sz).h 0 n c nn v := by
  rcases h with h | ⟨a, k, h1, h2, h3, h4, h5, h6⟩
  · exact .inl h
  · refine .inr ⟨a, k, h1, h2, h3, ?_, fun hc => ?_, fun hk => ?_⟩
    · show 0 + k ≤ l.h.cap - o
      omega
    · show 0 + k = l.h.cap - o
      have := h5 hc
      omega
    · rw [h6 hk]
      show Addr.mk _ _ _ = Addr.mk _ _ _
      simp only [hs, Nat.zero_mul, Nat.add_zero]

end

theorem Does.sub2 {P : Program} {f : FuncId} {a1 : AV} {args : List AV} {H : List PO} {K : AV → List Nat → List PO → Prop} {r o n sz : Nat} {c : Option Nat} {nn : Bool} {rs : List (List FC)} (hr : H[r]? = some (.rows true sz rs)) (ho : o ≤ rs.length)
    (h : Does P f (a1 :: cv (.slc H.length 0 n c nn) :: args) (H ++ [.rows true sz ((rs.drop o).take n)]) K) : Does P f (a1 :: cv (.slc r o n c nn) :: args) H K := by
  refine ⟨h.fn, fun B R w0 L w vs hrel hvs => ?_⟩
  obtain ⟨v0, us0, rfl, hv0, v, us, rfl, hv, hus⟩ := hvs
  obtain ⟨g1, g2⟩ := sub_sound n hrel hr ho
  have hs := (hrel.obj r _ hr).1
  have hm : ∀ {x : AV} {y : Value}, VA H.length L x y → VA (H ++ [PO.rows true sz ((rs.drop o).take n)]).length (upd L H.length (subLoc (L r) o sz)) x y := fun {x y} hx => by
    have := hx.mono (M := []) (N' := (H ++ [PO.rows true sz ((rs.drop o).take n)]).length) (by simp) g1
    rwa [killA_nil] at this
  refine (h.run B R w0 _ w (v0 :: v :: us) g2 ⟨_, _, rfl, hm hv0, _, _, rfl, ⟨by simp, by rw [upd_self]; exact sub_hdr hs hv.2⟩, ?_⟩).mono ?_
  · have := VAs.mono (M := []) (N' := (H ++ [PO.rows true sz ((rs.drop o).take n)]).length) (by simp) g1 hus
    rwa [show args.map (killA []) = args from (List.map_congr_left fun x _ => killA_nil x).trans (List.map_id _)] at this
  · rintro e w' ⟨u, he, L', x, M, H', k1, k2, k3, k4, k5⟩
    refine ⟨u, he, L', x, M, H', fun i hi hm => ?_, ?_, k3, k4, k5⟩
    · rw [k1 i (by simp; omega) hm, upd_ne (by omega)]
    · simp at k2; omega

theorem Does.nilArg3 {P : Program} {f : FuncId} {a1 a2 : AV} {args : List AV} {H : List PO} {K : AV → List Nat → List PO → Prop} (sz : Nat) (hsz : 0 < sz) (h : Does P f (a1 :: a2 :: cv (.slc H.length 0 0 none false) :: args) (H ++ [.rows false sz []]) K) :
    Does P f (a1 :: a2 :: cv .nilslc :: args) H K := by
  refine ⟨h.fn, fun B R w0 L w vs hrel hvs => ?_⟩
  obtain ⟨v0, us0, rfl, hv0, v1, us1, rfl, hv1, v, us, rfl, hv, hus⟩ := hvs
  obtain ⟨g1, g2⟩ := none_sound hrel sz hsz
  obtain rfl : v = .slice none 0 0 := hv
  have hm : ∀ {x : AV} {y : Value}, VA H.length L x y → VA (H ++ [PO.rows false sz []]).length (upd L H.length ⟨⟨0, 0, 0, sz⟩, fun _ => ⟨0, 0, 0, 0⟩⟩) x y := fun {x y} hx => by
    have := hx.mono (M := []) (N' := (H ++ [PO.rows false sz []]).length) (by simp) g1
    rwa [killA_nil] at this
  refine (h.run B R w0 _ w (v0 :: v1 :: .slice none 0 0 :: us) g2 ⟨_, _, rfl, hm hv0, _, _, rfl, hm hv1, _, _, rfl, ⟨by simp, .inl ⟨rfl, rfl, rfl, fun c' hc' => by cases hc'⟩⟩, ?_⟩).mono ?_
  · have := VAs.mono (M := []) (N' := (H ++ [PO.rows false sz []]).length) (by simp) g1 hus
    rwa [show args.map (killA []) = args from (List.map_congr_left fun x _ => killA_nil x).trans (List.map_id _)] at this
  · rintro e w' ⟨u, he, L', x, M, H', k1, k2, k3, k4, k5⟩
    refine ⟨u, he, L', x, M, H', fun i hi hm => ?_, ?_, k3, k4, k5⟩
    · rw [k1 i (by simp; omega) hm, upd_ne (by omega)]
    · simp at k2; omega

end Go.Mac
