/- A barrier at rest; how many instructions all its programs have; whoever goes on, how many steps. -/
import Derived.Test.YtlimhldkkbaohaaGreatDoorGDanceH
import Derived.Test.YtlimhldkkbaohaaGreatDoorGCount
open Go Go.Proofs Go.Mac
set_option maxRecDepth 100000
namespace Go.Mac

section
variable {K : AV → List Nat → List PO → Prop}

theorem floor0 {k n R : Nat} (hk : KindOk (k : Int) n R (kindC k n) (kindPs k n R)) (h : ∀ v, okV v → WF (danceM k n R) → K (cv (.ptr 0 0)) [] (machH (danceM k n R) v)) :
    Does Tryz.prog 13 [i64 k, i64 n, i64 R, cv .nilslc] [] K := by
  refine Does.keep 0 rfl ?_
  refine Does.nilArg4 2 (by decide) ?_
  refine floor (ms := []) (z := danceM k n R) hk rfl (by decide) rfl fun v hv hw => ?_
  exact ⟨10, [1, 2, 3, 4, 5, 6, 7, 8, 9], machH (danceM k n R) v, cv (.ptr 0 0), rfl, rfl, by decide, by decide, rfl, rfl, rfl, rfl, rfl, h v hv hw⟩

/-- How many instructions the first programs have. -/
def sizeT (k n i : Nat) : Nat := rsum i fun t => 8 + offP (PP k n t) (PP k n t).length

theorem size_succ (k n i : Nat) : sizeT k n (i + 1) = sizeT k n i + (8 + offP (PP k n i) (PP k n i).length) := rsum_succ _ _

theorem size_le {k n : Nat} (hk : 1 ≤ k ∧ k ≤ 6) (hn : 1 ≤ n ∧ n ≤ 16) : ∀ i, i ≤ n → sizeT k n i ≤ i * 10008
  | 0, _ => Nat.le_refl _
  | i + 1, hi => by
    have h1 := size_le hk hn i (by omega)
    have h2 := short_body hk hn (id := i) (by omega)
    have h3 : (bodyP (kindP k n i)).length = offP (kindP k n i) (kindP k n i).length := bodyQ_len _ _ _
    rw [size_succ, PP_get (by omega)]
    omega

end

section
variable {n nc R : Nat} {P : Nat → List Pc} {I : (Nat → AT) → (Nat → Nat) → List Slp → Prop} {F : (Nat → AT) → (Nat → Nat) → List Slp → Nat} {b : Nat} {A : Nat → AT} {V : Nat → Nat} {m : MZ}

/-- Nobody is woken for nothing: nothing is added to what is still to be done; who is never picked stays. -/
theorem DI.steps (hB : Bar n R P I F) (w : Nat → Prop) : ∀ (l : List MoveZ) {m : MZ} {A : Nat → AT} {V : Nat → Nat}, (∀ x ∈ l, x.pk = false ∧ ∀ s : Nat, w s → x.th ≠ s) → DI n nc R P I F b A V m → ∃ A' V', DI n nc R P I F b A' V' (movesZ m l) ∧ ∀ s, w s → A' s = A s
  | [], m, A, V, _, h => ⟨A, V, h, fun _ _ => rfl⟩
  | x :: l, m, A, V, hl, h => by
    obtain ⟨hx, hw⟩ := hl x (List.mem_cons_self ..)
    have h1 : ∃ A' V', DI n nc R P I F b A' V' (moveZ m x) ∧ ∀ s, w s → A' s = A s := by
      rw [moveZ, if_neg (by rw [hx]; decide)]
      rcases step_or h.abs.wf x.th with e | ⟨s, e, hc, hk⟩
      · rw [e]; exact ⟨A, V, h, fun _ _ => rfl⟩
      · rw [e]
        obtain ⟨g1, g2, g3, g4, g5⟩ := h.abs.go hc hk
        obtain ⟨ht, hd, hno⟩ := h.abs.can hc
        obtain ⟨i1, i2⟩ := hB.go A V m.ss s h.inv ht (h.abs.lo s ht) hd hno
        have hp := h.pot
        refine ⟨_, _, ⟨g1, by rw [g2]; exact i1, ?_, by rw [g2, g5]; omega⟩, fun u hu => updA_ne _ _ fun hus => hw u hu (by rw [e, hus])⟩
        rw [g4]
        exact h.ev.go ht (hB.reg A V m.ss h.inv s ht) fun hg => hB.safe A V m.ss s h.inv ht hg
    obtain ⟨A1, V1, h1, h2⟩ := h1
    obtain ⟨A2, V2, h3, h4⟩ := DI.steps hB w l (fun y hy => hl y (List.mem_cons_of_mem _ hy)) h1
    exact ⟨A2, V2, h3, fun s hs => (h4 s hs).trans (h2 s hs)⟩

end
end Go.Mac
