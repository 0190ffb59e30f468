/- A machine of threads that ask for calls, behind moves. -/
import Derived.Test.YtlimhldkkbaohaaGreatDoorGFinish
import Derived.Test.YtlimhldkkbaohaaGreatDoorQCallZ
import Derived.Test.YtlimhldkkbaohaaGreatDoorQMachNew
import Derived.Test.YtlimhldkkbaohaaGreatDoorGMachB
import Derived.Test.YtlimhldkkbaohaaGreatDoorQGone
import Derived.Test.YtlimhldkkbaohaaGreatDoorQCut
open Go Go.Proofs Go.Mac
set_option maxRecDepth 100000
namespace Go.Mac

theorem Does.nilArg4 {P : Program} {f : FuncId} {a1 a2 a3 : AV} {args : List AV} {H : List PO} {K : AV → List Nat → List PO → Prop} (sz : Nat) (hsz : 0 < sz) (h : Does P f (a1 :: a2 :: a3 :: cv (.slc H.length 0 0 none false) :: args) (H ++ [.rows false sz []]) K) :
    Does P f (a1 :: a2 :: a3 :: cv .nilslc :: args) H K := by
  refine ⟨h.fn, fun B R w0 L w vs hrel hvs => ?_⟩
  obtain ⟨v0, us0, rfl, hv0, v1, us1, rfl, hv1, v2, us2, rfl, hv2, v, us, rfl, hv, hus⟩ := hvs
  obtain ⟨g1, g2⟩ := none_sound hrel sz hsz
  obtain rfl : v = .slice none 0 0 := hv
  have hm : ∀ {x : AV} {y : Value}, VA H.length L x y → VA (H ++ [PO.rows false sz []]).length (upd L H.length ⟨⟨0, 0, 0, sz⟩, fun _ => ⟨0, 0, 0, 0⟩⟩) x y := fun {x y} hx => by
    have := hx.mono (M := []) (N' := (H ++ [PO.rows false sz []]).length) (by simp) g1
    rwa [killA_nil] at this
  refine (h.run B R w0 _ w (v0 :: v1 :: v2 :: .slice none 0 0 :: us) g2 ⟨_, _, rfl, hm hv0, _, _, rfl, hm hv1, _, _, rfl, hm hv2, _, _, rfl, ⟨by simp, .inl ⟨rfl, rfl, rfl, fun c' hc' => by cases hc'⟩⟩, ?_⟩).mono ?_
  · have := VAs.mono (M := []) (N' := (H ++ [PO.rows false sz []]).length) (by simp) g1 hus
    rwa [show args.map (killA []) = args from (List.map_congr_left fun x _ => killA_nil x).trans (List.map_id _)] at this
  · rintro e w' ⟨u, he, L', x, M, H', k1, k2, k3, k4, k5⟩
    refine ⟨u, he, L', x, M, H', fun i hi hm => ?_, ?_, k3, k4, k5⟩
    · rw [k1 i (by simp; omega) hm, upd_ne (by omega)]
    · simp at k2; omega

abbrev callsH (ro : Bool) (ls : List (List CallZ)) : PO := .rows2 ro 2 (ls.map fun l => l.map rowCallZ)

section
variable {K : AV → List Nat → List PO → Prop}

end
end Go.Mac
