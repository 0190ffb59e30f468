/- Loops whose rounds leave objects that are wanted under new numbers. -/
import Derived.Test.YtlimhldkkbaohaaDoorMacLift
open Go Go.Proofs Go.Mac
set_option maxRecDepth 100000
namespace Go.Mac

section
variable {B R : Nat → Prop} {w0 : World} {N : Nat} {L : Nat → Loc} {H : List PO} {P : Program} {w : World} {a : Act} {nt N0 : Nat} {T : Tm} {M : List Nat}
  {Q : Ex → Tm → List Nat → List PO → Prop}

/-- Each named temporary is as it stands, under old numbers. -/
def tmR (g : Nat → Nat) (T : Tm) : Tm → Prop
  | [] => True
  | (i, v) :: T0 => lk T i = renA g v ∧ tmR g T T0

theorem tmR_spec {g : Nat → Nat} {T : Tm} : ∀ {T0 : Tm}, tmR g T T0 → ∀ i, lk T0 i = .u ∨ lk T i = renA g (lk T0 i)
  | [], _, _ => .inl rfl
  | (j, v) :: T0, h, i => by
    rw [lk_cons]
    split
    · rename_i hj
      subst hj
      exact .inr h.1
    · exact tmR_spec h.2 i

/-- A state of a loop, its objects under new numbers. -/
structure AtR {α : Type} (N0 : Nat) (tm : α → Tm) (hp : α → List PO) (M0 : List Nat) (T : Tm) (M : List Nat) (H : List PO) (I : α → Prop) : Prop where
  get : ∃ (x : α) (ids : List Nat) (m : Nat), I x ∧ H.length = m ∧ tmR (gmap ids m) T (tm x) ∧ ids.take N0 = List.range N0 ∧ ids.Nodup ∧ (∀ i ∈ ids, i < m) ∧ (hp x).length = ids.length ∧ lowT ids.length (tm x) = true ∧ lowH ids.length (hp x) = true ∧
    (ids.map fun i => H[i]?) = ((hp x).map fun o => some (renO (gmap ids m) o)) ∧ ∀ i ∈ M, i ∈ M0

theorem AtR.use {α : Type} {tm : α → Tm} {hp : α → List PO} {M0 : List Nat} {I : α → Prop} (h : AtR N0 tm hp M0 T M H I) {L0 : Nat → Loc} (hag : Agree N0 M L0 L) (hrel : Rel B R w0 L H w) (ht : TR H.length L nt T a) :
    ∃ L2 x, I x ∧ N0 ≤ (hp x).length ∧ Agree N0 M0 L0 L2 ∧ Rel B R w0 L2 (hp x) w ∧ TR (hp x).length L2 nt (tm x) a := by
  obtain ⟨x, ids, m, hI, hm, hT, hr, hnd, hlt, hl, hlo, hlh, hH, hM⟩ := h.get
  subst hm
  have hlen : N0 ≤ ids.length := by
    have := congrArg List.length hr
    simp at this
    omega
  refine ⟨fun i => L (gmap ids H.length i), x, hI, by omega, fun i hi hm => ?_, ?_, ?_, ht.defers, ht.room⟩
  · rw [← hag i hi fun h => hm (hM i h)]
    have : ids[i]? = some i := by
      have h5 := congrArg (·[i]?) hr
      simp only [List.getElem?_take_of_lt (show i < N0 by omega), List.getElem?_range (show i < N0 by omega)] at h5
      exact h5
    show L (gmap ids H.length i) = _
    rw [gmap_some this]
  · refine hrel.keep ids hnd hlt (hp x) hl hlh fun k j o hk ho => ?_
    have := congrArg (·[k]?) hH
    simp only [List.getElem?_map, hk, ho, Option.map_some, Option.some.injEq] at this
    exact this
  · intro i
    rcases tmR_spec hT i with e | e
    · rw [e]; trivial
    · rw [hl]
      refine VA.unren (g := gmap ids H.length) (N := H.length) (fun i hi => ?_) (lowT_spec hlo i) (by rw [← e]; exact ht.get i)
      rw [gmap_some (j := ids[i]) (by simp [hi])]
      exact hlt _ (List.getElem_mem hi)

/-- A LOOP, as SS.loop; what a round leaves is told under new numbers. -/
theorem SS.loopR {c : Code} {α : Type} (I : α → Prop) (tm : α → Tm) (hp : α → List PO) (μ : α → Nat) (M0 : List Nat) (h0 : At N0 tm hp M0 T M H I)
    (hr : ∀ x, I x → SS P nt N0 c (tm x) M0 (hp x) fun e T' M' H' => match e with
      | .normal => AtR N0 tm hp M0 T' M' H' fun y => I y ∧ μ y < μ x
      | e => Q e T' M' H') : SS P nt N0 (.loop c) T M H Q := by
  refine ⟨fun B R w0 L0 L w a R0 h1 h2 h3 h4 h5 => ?_⟩
  let J : Nat → Act → World → Prop := fun n a' w' => ∃ L' x, N0 ≤ (hp x).length ∧ Agree N0 M0 L0 L' ∧ Rel B R w0 L' (hp x) w' ∧ TR (hp x).length L' nt (tm x) a' ∧ I x ∧ μ x = n
  let m : Act → World → Nat := fun a' w' => Classical.epsilon fun n => J n a' w' ∧ ∀ m, J m a' w' → n ≤ m
  have hm : ∀ n a' w', J n a' w' → J (m a' w') a' w' ∧ m a' w' ≤ n := by
    intro n a' w' hj
    have hex : ∃ n, J n a' w' ∧ ∀ m, J m a' w' → n ≤ m := by
      clear hr h0 h5
      induction n using Nat.strongRecOn with
      | _ n ih =>
        by_cases hm : ∃ m, m < n ∧ J m a' w'
        · obtain ⟨m, hlt, hpm⟩ := hm
          exact ih m hlt hpm
        · exact ⟨n, hj, fun m hpm => Nat.le_of_not_lt fun hlt => hm ⟨m, hlt, hpm⟩⟩
    have hs : J (m a' w') a' w' ∧ ∀ k, J k a' w' → m a' w' ≤ k := Classical.epsilon_spec hex
    exact ⟨hs.1, hs.2 n hj⟩
  obtain ⟨x0, hI0, g1, g2, g3, g4⟩ := h0.use h2 h3 h4
  refine wp_loop (fun a' w' => ∃ n, J n a' w') m ⟨_, L, x0, g1, g2, g3, g4, hI0, rfl⟩ ?_
  rintro a1 w1 ⟨n1, hj1⟩
  obtain ⟨⟨L1, x1, k1, k2, k3, k4, k5, k6⟩, _⟩ := hm n1 a1 w1 hj1
  refine (hr x1 k5).run B R w0 L0 L1 w1 a1 _ k1 k2 k3 k4 ?_
  intro e L' T' M' H' w' a' j1 j2 j3 j4 j5
  cases e with
  | normal =>
    obtain ⟨L2, x2, ⟨hI2, hlt⟩, i1, i2, i3, i4⟩ := AtR.use j5 j2 j3 j4
    have hj2 : J (μ x2) a' w' := ⟨L2, x2, i1, i2, i3, i4, hI2, rfl⟩
    have := (hm _ a' w' hj2).2
    exact ⟨⟨_, hj2⟩, by omega⟩
  | exit i => exact h5 (.exit i) L' T' M' H' w' a' j1 j2 j3 j4 j5
  | ret => exact h5 .ret L' T' M' H' w' a' j1 j2 j3 j4 j5

theorem AtR.mk' {α : Type} {tm : α → Tm} {hp : α → List PO} {M0 : List Nat} {I : α → Prop} (ids : List Nat) (m : Nat) (x : α) (hI : I x) (hm : H.length = m) (hT : tmR (gmap ids m) T (tm x)) (hr : ids.take N0 = List.range N0) (hnd : ids.Nodup) (hlt : ∀ i ∈ ids, i < m)
    (hl : (hp x).length = ids.length) (hlo : lowT ids.length (tm x) = true) (hlh : lowH ids.length (hp x) = true) (hH : (ids.map fun i => H[i]?) = ((hp x).map fun o => some (renO (gmap ids m) o))) (hM : ∀ i ∈ M, i ∈ M0) : AtR N0 tm hp M0 T M H I :=
  ⟨x, ids, m, hI, hm, hT, hr, hnd, hlt, hl, hlo, hlh, hH, hM⟩

end
end Go.Mac
