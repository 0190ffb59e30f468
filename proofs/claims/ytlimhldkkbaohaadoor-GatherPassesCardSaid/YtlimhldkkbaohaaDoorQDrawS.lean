/- Regions whose order is open, step by step. -/
import Derived.Test.YtlimhldkkbaohaaDoorMacD
open Go Go.Proofs Go.Mac
set_option maxRecDepth 100000
namespace Go.Mac

section
variable {P : Program} {nt : Nat} {all : List Oper} {E S : List Nat} {T : Tm} {M : List Nat} {H : List PO} {K : KT}

/-- One that only looks, and is to be done. -/
theorem draw_known {n i : Nat} {o : Oper} {T1 T2 : Tm} {v : AV} (hn : nextQ E numbers all = some (i, o)) (hg : ∀ k, guarded all T o k = k T1 true)
    (ha : ∀ K' : AV → List Nat → List PO → Prop, aop P T1 H K' o.op = K' v [] H) (hp : ∀ k, putT nt T1 o.dst v k = k T2) (h : drawnR P nt all n (i :: E) S T2 M H K) : drawnR P nt all (n + 1) E S T M H K := by
  show drawStep P nt all (drawnR P nt all n) E S T M H K
  unfold drawStep
  rw [hn]
  dsimp only
  rw [hg]
  dsimp only
  rw [ha, hp]
  exact h

/-- One that only looks, and is not to be done. -/
theorem draw_skip {n i : Nat} {o : Oper} {T1 T2 : Tm} (hn : nextQ E numbers all = some (i, o)) (hg : ∀ k, guarded all T o k = k T1 false)
    (hp : ∀ k, putT nt T1 o.dst undefA k = k T2) (h : drawnR P nt all n (i :: E) S T2 M H K) : drawnR P nt all (n + 1) E S T M H K := by
  show drawStep P nt all (drawnR P nt all n) E S T M H K
  unfold drawStep
  rw [hn]
  dsimp only
  rw [hg]
  dsimp only
  rw [hp]
  exact h

/-- One that only looks, to be done under a condition. -/
theorem draw_cond {n i : Nat} {o : Oper} {T1 T2 : Tm} {v : AV} {C : Prop} (hn : nextQ E numbers all = some (i, o)) (hg : ∀ k, guarded all T o k = k T1 true)
    (ha : ∀ K' : AV → List Nat → List PO → Prop, C → K' v [] H → aop P T1 H K' o.op) (hp : ∀ k, putT nt T1 o.dst v k = k T2) (hc : C) (h : drawnR P nt all n (i :: E) S T2 M H K) : drawnR P nt all (n + 1) E S T M H K := by
  show drawStep P nt all (drawnR P nt all n) E S T M H K
  unfold drawStep
  rw [hn]
  dsimp only
  rw [hg]
  dsimp only
  refine ha _ hc ?_
  rw [hp]
  exact h

/-- What is left when one that does more than look has been done. -/
noncomputable def effR (P : Program) (nt : Nat) (all : List Oper) (n : Nat) (E S : List Nat) (T : Tm) (M : List Nat) (H : List PO) (K : KT) (x : Nat × Oper) : Prop :=
  guarded all T x.2 fun T' b =>
    match b with
    | true => aop P T' H (fun v M' H' => killT M' T' fun T1 => putT nt T1 x.2.dst v fun T2 => addM M' M fun M2 =>
        checksR P all E (ahead all 1000 [x.1] S) T2 H' (drawnR P nt all n (x.1 :: E) (ahead all 1000 [x.1] S) T2 M2 H' K) numbers all) x.2.op
    | false => putT nt T' x.2.dst undefA fun T2 =>
        checksR P all E (ahead all 1000 [x.1] S) T2 H (drawnR P nt all n (x.1 :: E) (ahead all 1000 [x.1] S) T2 M H K) numbers all

theorem draw_eff {n : Nat} {R : List (Nat × Oper)} {x : Nat × Oper} {R' : List (Nat × Oper)} (hn : nextQ E numbers all = none) (he : effs E numbers all = R) (hR : R = x :: R') (h : ∀ y ∈ R, effR P nt all n E S T M H K y) : drawnR P nt all (n + 1) E S T M H K := by
  show drawStep P nt all (drawnR P nt all n) E S T M H K
  unfold drawStep
  rw [hn, he]
  subst hR
  have key : ∀ l : List (Nat × Oper), (∀ y ∈ l, effR P nt all n E S T M H K y) → allR (effR P nt all n E S T M H K) l := by
    intro l
    induction l with
    | nil => intro _; trivial
    | cons a l ih =>
      intro hl
      cases l with
      | nil => exact hl a (by simp)
      | cons b l => exact ⟨hl a (by simp), ih fun y hy => hl y (by simp [hy])⟩
  exact key _ h

theorem draw_eff1 {n : Nat} {x : Nat × Oper} (hn : nextQ E numbers all = none) (he : effs E numbers all = [x]) (h : effR P nt all n E S T M H K x) : drawnR P nt all (n + 1) E S T M H K :=
  draw_eff hn he rfl fun y hy => by obtain rfl := List.mem_singleton.1 hy; exact h

theorem draw_eff2 {n : Nat} {x y : Nat × Oper} (hn : nextQ E numbers all = none) (he : effs E numbers all = [x, y]) (h1 : effR P nt all n E S T M H K x) (h2 : effR P nt all n E S T M H K y) : drawnR P nt all (n + 1) E S T M H K :=
  draw_eff hn he rfl fun z hz => by
    simp only [List.mem_cons, List.not_mem_nil, or_false] at hz
    rcases hz with rfl | rfl
    · exact h1
    · exact h2

/-- All is done. -/
theorem draw_end {n : Nat} (hn : nextQ E numbers all = none) (he : effs E numbers all = []) (hE : hasAll E (numbers.take all.length) = true) (h : K T M H) : drawnR P nt all (n + 1) E S T M H K := by
  show drawStep P nt all (drawnR P nt all n) E S T M H K
  unfold drawStep
  rw [hn, he]
  dsimp only
  rw [hE]
  exact h

theorem eff_known {n i : Nat} {o : Oper} {T1 T2 : Tm} {v : AV} {H' : List PO} (hg : ∀ k, guarded all T o k = k T1 true)
    (ha : ∀ K' : AV → List Nat → List PO → Prop, aop P T1 H K' o.op = K' v [] H') (hp : ∀ k, putT nt T1 o.dst v k = k T2)
    (h : checksR P all E (ahead all 1000 [i] S) T2 H' (drawnR P nt all n (i :: E) (ahead all 1000 [i] S) T2 M H' K) numbers all) : effR P nt all n E S T M H K (i, o) := by
  unfold effR
  dsimp only
  rw [hg]
  dsimp only
  rw [ha]
  rw [show ∀ k, killT [] T1 k = k T1 from fun _ => rfl, hp]
  exact h

theorem eff_skip {n i : Nat} {o : Oper} {T1 T2 : Tm} (hg : ∀ k, guarded all T o k = k T1 false) (hp : ∀ k, putT nt T1 o.dst undefA k = k T2)
    (h : checksR P all E (ahead all 1000 [i] S) T2 H (drawnR P nt all n (i :: E) (ahead all 1000 [i] S) T2 M H K) numbers all) : effR P nt all n E S T M H K (i, o) := by
  unfold effR
  dsimp only
  rw [hg]
  dsimp only
  rw [hp]
  exact h

/-- One that does more than look, in its own way. -/
theorem eff_run {n i : Nat} {o : Oper} {T1 : Tm} (hg : ∀ k, guarded all T o k = k T1 true)
    (h : aop P T1 H (fun v M' H' => killT M' T1 fun T2 => putT nt T2 o.dst v fun T3 => addM M' M fun M2 =>
        checksR P all E (ahead all 1000 [i] S) T3 H' (drawnR P nt all n (i :: E) (ahead all 1000 [i] S) T3 M2 H' K) numbers all) o.op) : effR P nt all n E S T M H K (i, o) := by
  unfold effR
  dsimp only
  rw [hg]
  exact h

end
end Go.Mac
