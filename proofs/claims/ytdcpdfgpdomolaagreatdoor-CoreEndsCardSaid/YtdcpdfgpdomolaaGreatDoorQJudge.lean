/- The judge: an event, and events one behind the other. -/
import Derived.Test.YtdcpdfgpdomolaaGreatDoorGBase
open Go Go.Proofs Go.Mac
set_option maxRecDepth 100000
namespace Go.Mac

structure EvZ where
  w : Int
  a : Int
  t : Int
  v : Int

abbrev rowEv (x : EvZ) : List FC := [.int .i64 x.w, .int .i64 x.a, .int .i64 x.t, .int .i64 x.v]

/-- What is wrong with an event, and who came, and went, behind it. -/
def oneZ (e : EvZ) (came gone : List Int) : Int × List Int × List Int :=
  if e.a ≠ 1 ∧ e.a ≠ 2 then (1, came, gone)
  else if e.t < 0 ∨ e.t ≥ came.length then (2, came, gone)
  else if e.a = 1 then
    if came.getD e.t.toNat 0 ≠ gone.getD e.t.toNat 0 ∨ e.v ≠ came.getD e.t.toNat 0 + 1 then (10, came, gone) else (0, came.set e.t.toNat (came.getD e.t.toNat 0 + 1), gone)
  else if came.getD e.t.toNat 0 = gone.getD e.t.toNat 0 ∨ e.v ≠ came.getD e.t.toNat 0 then (10, came, gone)
  else if came.any fun c => decide (c < e.v) then (13, came, gone) else (0, came, gone.set e.t.toNat (gone.getD e.t.toNat 0 + 1))

theorem gx {l : List Int} {i : Int} {x : Int} (h : l[i.toNat]? = some x) : (l.map rowZ)[0 + Int.toNat i]? = some (rowZ x) := by simp [h]

def smallL (b : Int) (l : List Int) : Prop := ∀ x ∈ l, 0 ≤ x ∧ x ≤ b

section
variable {K : AV → List Nat → List PO → Prop}

abbrev twoH (came gone : List Int) : List PO := [.rows false 1 (came.map rowZ), .rows false 1 (gone.map rowZ)]

/-- The first event that is wrong, and what is wrong with it; and who came, and went. -/
def runZ : List EvZ → Nat → List Int → List Int → Option (Int × Nat)
  | [], _, _, _ => none
  | e :: l, i, c, g => if (oneZ e c g).1 = 0 then runZ l (i + 1) (oneZ e c g).2.1 (oneZ e c g).2.2 else some ((oneZ e c g).1, i)

def noughts (n : Nat) : List Int := List.replicate n 0
def checkZ (n : Nat) (l : List EvZ) : Option (Int × Nat) := runZ l 0 (noughts n) (noughts n)

theorem oneZ_len (e : EvZ) (came gone : List Int) : (oneZ e came gone).2.1.length = came.length ∧ (oneZ e came gone).2.2.length = gone.length := by
  unfold oneZ
  split
  · exact ⟨rfl, rfl⟩
  split
  · exact ⟨rfl, rfl⟩
  split
  · split <;> simp
  split
  · exact ⟨rfl, rfl⟩
  split <;> simp

theorem noughts_small (n : Nat) : smallL (0 : Nat) (noughts n) := fun x hx => by
  have := List.eq_of_mem_replicate hx
  subst this
  exact ⟨Int.le_refl _, Int.le_refl _⟩

theorem noughts_rows (n : Nat) : (noughts n).map rowZ = List.replicate n [.int .i64 0] := by
  simp [noughts]

theorem small_set {b : Int} {l : List Int} {i : Nat} {x : Int} (h : smallL b l) (hx : 0 ≤ x ∧ x ≤ b + 1) : smallL (b + 1) (l.set i x) := by
  intro y hy
  rcases List.mem_or_eq_of_mem_set hy with hy | rfl
  · have := h y hy
    omega
  · exact hx

theorem small_more {b : Int} {l : List Int} (h : smallL b l) : smallL (b + 1) l := fun y hy => by
  have := h y hy
  omega

theorem small_getD {b : Int} {l : List Int} (hb : 0 ≤ b) (h : smallL b l) (i : Nat) : 0 ≤ l.getD i 0 ∧ l.getD i 0 ≤ b := by
  rw [List.getD_eq_getElem?_getD]
  rcases hi : l[i]? with _ | x
  · exact ⟨Int.le_refl _, hb⟩
  · exact h x (List.mem_iff_getElem?.2 ⟨i, hi⟩)

theorem oneZ_small (e : EvZ) {b : Int} {came gone : List Int} (hb : 0 ≤ b) (h1 : smallL b came) (h2 : smallL b gone) : smallL (b + 1) (oneZ e came gone).2.1 ∧ smallL (b + 1) (oneZ e came gone).2.2 := by
  have g1 := small_getD hb h1 e.t.toNat
  have g2 := small_getD hb h2 e.t.toNat
  unfold oneZ
  split
  · exact ⟨small_more h1, small_more h2⟩
  split
  · exact ⟨small_more h1, small_more h2⟩
  split
  · split
    · exact ⟨small_more h1, small_more h2⟩
    · exact ⟨small_set h1 (by omega), small_more h2⟩
  split
  · exact ⟨small_more h1, small_more h2⟩
  split
  · exact ⟨small_more h1, small_more h2⟩
  · exact ⟨small_more h1, small_set h2 (by omega)⟩

theorem gev {l : List EvZ} {i : Nat} {x : EvZ} (h : l[i]? = some x) : (l.map rowEv)[0 + Int.toNat (i : Int)]? = some (rowEv x) := by simp [h]

section
variable {K : AV → List Nat → List PO → Prop}

end

end
end Go.Mac
