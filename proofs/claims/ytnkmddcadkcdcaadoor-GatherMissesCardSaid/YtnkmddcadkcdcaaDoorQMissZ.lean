/- Threads that pass, too few: what holds of the machine, whoever goes on when. -/
import Derived.Test.YtnkmddcadkcdcaaDoorQWay
import Derived.Test.YtnkmddcadkcdcaaDoorQGather
import Derived.Test.YtnkmddcadkcdcaaDoorQSemaE
open Go Go.Proofs Go.Mac
set_option maxRecDepth 100000
namespace Go.Mac

def passB : List InsZ := arriveI 0 (-1) 38 ++ awaitI 29
theorem pass_cat : gathP [⟨9, 0⟩] = catP ([()].map fun _ => passB) := rfl

/-- What the cell holds when so many came. -/
def msW (N k : Nat) : Int := (N : Int) - k + N * 65536

def msOk (N n : Nat) (o : Nat) (r1 r2 r3 r4 r5 : Int) : Prop :=
  (o ≤ 7 ∨ 18 ≤ o ∧ o ≤ 22 ∨ 29 ≤ o ∧ o ≤ 33 ∨ o = 35 ∨ o = 36) ∧ (1 ≤ o → o ≤ 20 → ∃ k : Nat, k < n ∧ r1 = msW N k) ∧ (o = 2 → r2 = 0) ∧ (4 ≤ o → o ≤ 22 → 2 ≤ r2) ∧ (6 ≤ o → o ≤ 18 → r4 = r1 - 1) ∧ (o = 19 → r3 = 0 ∨ r3 = 1) ∧ (21 ≤ o → r5 = 0) ∧ (30 ≤ o → o ≤ 35 → ∃ k : Nat, k ≤ n ∧ r1 = msW N k) ∧ (o = 31 ∨ o = 33 → r2 = 0)

def MsG (N n : Nat) (g : GZ) : Prop := g.j = 0 ∧ g.y.dn = false ∧ ∃ r1 r2 r3 r4 r5 : Int, g.y.rg = [0, r1, r2, r3, r4, r5, 0, 0] ∧ msOk N n g.y.pc r1 r2 r3 r4 r5

def msA (g : GZ) : Nat := if (g.y.pc = 19 ∧ rgZ g.y.rg 3 = 1) ∨ 20 ≤ g.y.pc then 1 else 0

def msL (v : Int) (o : Nat) (r1 r3 : Int) : Nat :=
  match o with
  | 0 => 102
  | 1 => if r1 = v then 101 else 111
  | 2 => if r1 = v then 100 else 110
  | 3 => if r1 = v then 99 else 109
  | 4 => if r1 = v then 98 else 108
  | 5 => if r1 = v then 97 else 107
  | 6 => if r1 = v then 96 else 106
  | 7 => if r1 = v then 95 else 105
  | 18 => if r1 = v then 94 else 104
  | 19 => if r3 = 0 then 103 else 13
  | 20 => 12
  | 21 => 11
  | 22 => 10
  | 29 => 8
  | 30 => if r1 = v then 7 else 17
  | 31 => if r1 = v then 6 else 16
  | 32 => if r1 = v then 5 else 15
  | 33 => if r1 = v then 4 else 14
  | 35 => if r1 = v then 3 else 13
  | 36 => 9
  | _ => 0

def msP (v : Int) (g : GZ) : Nat := msL v g.y.pc (rgZ g.y.rg 1) (rgZ g.y.rg 3)

theorem msL_mono (v w : Int) (o : Nat) (r1 r3 : Int) : msL w o r1 r3 ≤ msL v o r1 r3 + 10 := by
  unfold msL
  split <;> (repeat' split) <;> omega

theorem msP_mono {v w : Int} {d : Nat} (h : w = v ∨ d = 10) (g : GZ) : msP w g ≤ msP v g + d := by
  rcases h with rfl | rfl
  · omega
  · exact msL_mono _ _ _ _ _

structure MsJ (B N n : Nat) (gs : Nat → GZ) (v : Int) (m : MZ) : Prop where
  sys : SysW n 1 (fun _ => [()].map fun _ => passB) gs [v] m
  hn : n ≤ 8 ∧ n < N ∧ N ≤ 13
  th : ∀ t, t < n → MsG N n (gs t)
  ex : v = msW N (rsum n fun t => msA (gs t))
  el : m.el = []
  pot : m.k + (rsum n (fun t => msP v (gs t)) + 10 * (n - m.ss.length)) ≤ B

inductive MsOut (g : GZ) (v : Int) (g' : GZ) (v' : Int) (e : EffW) : Prop
  | quiet (hv : v' = v) (he : e = .no ∨ ∃ o c x y, e = .act o c x y) (ha : msA g' = msA g) (hp : msP v g' + 1 ≤ msP v g)
  | sleep (hv : v' = v) (he : e = .sleep 0) (ha : msA g' = msA g) (hp : msP v g' ≤ msP v g + 9)
  | arrive (hv : v' = v - 1) (he : ∃ o c x y, e = .act o c x y) (ha : msA g = 0 ∧ msA g' = 1) (hp : msP v' g' + 81 ≤ msP v g)

theorem ms_bits0 : ∀ N : Fin 14, ∀ k : Fin 13, k.val ≤ N.val → bitsZ (msW N.val k.val) 63 1 = 0 ∧ bitsZ (msW N.val k.val) 0 16 = (N.val : Int) - k.val ∧ bitsZ (msW N.val k.val) 32 31 = 0 := by decide +kernel

theorem ms_bits {N k : Nat} (hN : N ≤ 13) (hk : k < N) : bitsZ (msW N k) 63 1 = 0 ∧ bitsZ (msW N k) 0 16 = (N : Int) - k ∧ bitsZ (msW N k) 32 31 = 0 := ms_bits0 ⟨N, by omega⟩ ⟨k, by omega⟩ (by show k ≤ N; omega)

set_option maxHeartbeats 2000000 in
theorem ms_local {N n : Nat} (hN : n < N ∧ N ≤ 13) {g : GZ} {v : Int} (h : MsG N n g) (hv : ∃ k : Nat, k ≤ n ∧ v = msW N k) (hv' : msA g = 0 → ∃ k : Nat, k < n ∧ v = msW N k) : ∃ g' v' e, LS 1 ([()].map fun _ => passB) g [v] g' [v'] e ∧ MsG N n g' ∧ MsOut g v g' v' e := by
  obtain ⟨j, o, rg, dn⟩ := g
  obtain ⟨hj, hd, r1, r2, r3, r4, r5, hrg, hok⟩ := h
  dsimp only at hj hd hrg hok
  subst hj hd hrg
  have inn {o' : Nat} {r1' r2' r3' r4' r5' v' : Int} {e : EffW} {i : InsZ} (hi : passB[o]? = some i) (hc : cellK 1 i = true) (hnx : nextW i ⟨o, [0, r1, r2, r3, r4, r5, 0, 0], false⟩ [v] = (⟨o', [0, r1', r2', r3', r4', r5', 0, 0], false⟩, [v'], e)) (h' : msOk N n o' r1' r2' r3' r4' r5')
      (hout : MsOut ⟨0, ⟨o, [0, r1, r2, r3, r4, r5, 0, 0], false⟩⟩ v ⟨0, ⟨o', [0, r1', r2', r3', r4', r5', 0, 0], false⟩⟩ v' e) : ∃ g' v' e, LS 1 ([()].map fun _ => passB) ⟨0, ⟨o, [0, r1, r2, r3, r4, r5, 0, 0], false⟩⟩ [v] g' [v'] e ∧ MsG N n g' ∧ MsOut ⟨0, ⟨o, [0, r1, r2, r3, r4, r5, 0, 0], false⟩⟩ v g' v' e :=
    ⟨_, _, _, LS.inn (l := [()]) (b := ()) rfl hi (cellK_ok hc) hnx (by have := h'.1; show o' < 39; omega), ⟨rfl, rfl, r1', r2', r3', r4', r5', rfl, h'⟩, hout⟩
  have ho := hok.1
  rcases (show o = 0 ∨ o = 1 ∨ o = 2 ∨ o = 3 ∨ o = 4 ∨ o = 5 ∨ o = 6 ∨ o = 7 ∨ o = 18 ∨ o = 19 ∨ o = 20 ∨ o = 21 ∨ o = 22 ∨ o = 29 ∨ o = 30 ∨ o = 31 ∨ o = 32 ∨ o = 33 ∨ o = 35 ∨ o = 36 by omega) with rfl | rfl | rfl | rfl | rfl | rfl | rfl | rfl | rfl | rfl | rfl | rfl | rfl | rfl | rfl | rfl | rfl | rfl | rfl | rfl <;> simp [msOk] at hok
  · have hv' := hv' (by simp [msA])
    refine inn (o' := 1) (r1' := v) rfl (by decide) rfl (by simp [msOk]; exact hv') (.quiet rfl (.inr ⟨_, _, _, _, rfl⟩) ?_ ?_)
    · simp [msA]
    · simp [msP, msL, rgZ]
  · obtain ⟨k, hk, rfl⟩ := hok
    obtain ⟨b1, b2, b3⟩ := ms_bits (N := N) (k := k) hN.2 (by omega)
    refine inn (o' := 2) (r2' := bitsZ (msW N k) 63 1) rfl (by decide) rfl (by rw [b1]; simp [msOk]; exact ⟨k, hk, rfl⟩) (.quiet rfl (.inl rfl) ?_ ?_)
    · simp [msA]
    · simp [msP, msL, rgZ]; split <;> omega
  · obtain ⟨hk, rfl⟩ := hok
    refine inn (o' := 3) rfl (by decide) (nx_same' (fun e => absurd (show (0 : Int) = 1 from e) (by decide))) (by simp [msOk]; exact hk) (.quiet rfl (.inl rfl) ?_ ?_)
    · simp [msA]
    · simp [msP, msL, rgZ]; split <;> omega
  · obtain ⟨k, hk, rfl⟩ := hok
    obtain ⟨b1, b2, b3⟩ := ms_bits (N := N) (k := k) hN.2 (by omega)
    refine inn (o' := 4) (r2' := bitsZ (msW N k) 0 16) rfl (by decide) rfl (by rw [b2]; simp [msOk]; exact ⟨⟨k, hk, rfl⟩, by omega⟩) (.quiet rfl (.inl rfl) ?_ ?_)
    · simp [msA]
    · simp [msP, msL, rgZ]; split <;> omega
  · obtain ⟨hk, h2⟩ := hok
    refine inn (o' := 5) rfl (by decide) (nx_same' (fun e => by have e : r2 = 0 := e; omega)) (by simp [msOk]; exact ⟨hk, h2⟩) (.quiet rfl (.inl rfl) ?_ ?_)
    · simp [msA]
    · simp [msP, msL, rgZ]; split <;> omega
  · obtain ⟨⟨k, hk, rfl⟩, h2⟩ := hok
    have e : u64m (msW N k + u64m (-1)) = msW N k - 1 := by
      rw [u64m, show u64m (-1) = 18446744073709551615 by rfl, wrap_u64_mod, msW]; omega
    refine inn (o' := 6) (r4' := u64m (msW N k + u64m (-1))) rfl (by decide) rfl (by rw [e]; simp [msOk]; exact ⟨⟨k, hk, rfl⟩, h2⟩) (.quiet rfl (.inl rfl) ?_ ?_)
    · simp [msA]
    · simp [msP, msL, rgZ]; split <;> omega
  · obtain ⟨hk, h2, h4⟩ := hok
    refine inn (o' := 7) rfl (by decide) (nx_same' (fun e => by have e : r2 = 1 := e; omega)) (by simp [msOk]; exact ⟨hk, h2, h4⟩) (.quiet rfl (.inl rfl) ?_ ?_)
    · simp [msA]
    · simp [msP, msL, rgZ]; split <;> omega
  · obtain ⟨hk, h2, h4⟩ := hok
    refine inn (o' := 18) rfl (by decide) rfl (by simp [msOk]; exact ⟨hk, h2, h4⟩) (.quiet rfl (.inl rfl) ?_ ?_)
    · simp [msA]
    · simp [msP, msL, rgZ]; split <;> omega
  · obtain ⟨hk, h2, h4⟩ := hok
    subst h4
    by_cases h1 : v = r1
    · subst h1
      refine inn (o' := 19) (r3' := 1) (v' := v - 1) rfl (by decide) (nx_swap rfl) (by simp [msOk]; exact ⟨hk, h2⟩) (.arrive rfl ⟨_, _, _, _, rfl⟩ ⟨?_, ?_⟩ ?_)
      · simp [msA]
      · simp [msA, rgZ]
      · simp [msP, msL, rgZ]
    · have h1' : ¬ r1 = v := fun e => h1 e.symm
      refine inn (o' := 19) (r3' := 0) (v' := v) rfl (by decide) (nx_swap' h1) (by simp [msOk]; exact ⟨hk, h2⟩) (.quiet rfl (.inr ⟨_, _, _, _, rfl⟩) ?_ ?_)
      · simp [msA, rgZ]
      · simp [msP, msL, rgZ, h1']
  · obtain ⟨hk, h2, h3⟩ := hok
    rcases h3 with rfl | rfl
    · refine inn (o' := 0) rfl (by decide) (nx_same rfl) (by simp [msOk]) (.quiet rfl (.inl rfl) ?_ ?_)
      · simp [msA, rgZ]
      · simp [msP, msL, rgZ]
    · refine inn (o' := 20) rfl (by decide) (nx_same' (fun e => absurd (show (1 : Int) = 0 from e) (by decide))) (by simp [msOk]; exact ⟨hk, h2⟩) (.quiet rfl (.inl rfl) ?_ ?_)
      · simp [msA, rgZ]
      · simp [msP, msL, rgZ]
  · obtain ⟨⟨k, hk, rfl⟩, h2⟩ := hok
    obtain ⟨b1, b2, b3⟩ := ms_bits (N := N) (k := k) hN.2 (by omega)
    refine inn (o' := 21) (r5' := bitsZ (msW N k) 32 31) rfl (by decide) rfl (by rw [b3]; simp [msOk]; exact h2) (.quiet rfl (.inl rfl) ?_ ?_)
    · simp [msA]
    · simp [msP, msL, rgZ]
  · obtain ⟨h2, h5⟩ := hok
    refine inn (o' := 22) rfl (by decide) (nx_same' (fun e => by have e : r2 = 1 := e; omega)) (by simp [msOk]; exact ⟨h2, h5⟩) (.quiet rfl (.inl rfl) ?_ ?_)
    · simp [msA]
    · simp [msP, msL, rgZ]
  · obtain ⟨h2, h5⟩ := hok
    refine inn (o' := 29) rfl (by decide) rfl (by simp [msOk]; exact h5) (.quiet rfl (.inl rfl) ?_ ?_)
    · simp [msA]
    · simp [msP, msL, rgZ]
  · refine inn (o' := 30) (r1' := v) rfl (by decide) rfl (by simp [msOk]; exact ⟨hok, hv⟩) (.quiet rfl (.inr ⟨_, _, _, _, rfl⟩) ?_ ?_)
    · simp [msA]
    · simp [msP, msL, rgZ]
  · obtain ⟨h5, k, hk, rfl⟩ := hok
    obtain ⟨b1, b2, b3⟩ := ms_bits (N := N) (k := k) hN.2 (by omega)
    refine inn (o' := 31) (r2' := bitsZ (msW N k) 63 1) rfl (by decide) rfl (by rw [b1]; simp [msOk]; exact ⟨h5, k, hk, rfl⟩) (.quiet rfl (.inl rfl) ?_ ?_)
    · simp [msA]
    · simp [msP, msL, rgZ]; split <;> omega
  · obtain ⟨h5, hk, rfl⟩ := hok
    refine inn (o' := 32) rfl (by decide) (nx_same' (fun e => absurd (show (0 : Int) = 1 from e) (by decide))) (by simp [msOk]; exact ⟨h5, hk⟩) (.quiet rfl (.inl rfl) ?_ ?_)
    · simp [msA]
    · simp [msP, msL, rgZ]; split <;> omega
  · obtain ⟨h5, k, hk, rfl⟩ := hok
    obtain ⟨b1, b2, b3⟩ := ms_bits (N := N) (k := k) hN.2 (by omega)
    refine inn (o' := 33) (r2' := bitsZ (msW N k) 32 31) rfl (by decide) rfl (by rw [b3]; simp [msOk]; exact ⟨h5, k, hk, rfl⟩) (.quiet rfl (.inl rfl) ?_ ?_)
    · simp [msA]
    · simp [msP, msL, rgZ]; split <;> omega
  · obtain ⟨h5, hk, h2⟩ := hok
    subst h5 h2
    refine inn (o' := 35) rfl (by decide) (nx_equal rfl) (by simp [msOk]; exact hk) (.quiet rfl (.inl rfl) ?_ ?_)
    · simp [msA]
    · simp [msP, msL, rgZ]; split <;> omega
  · obtain ⟨h5, hk⟩ := hok
    by_cases h1 : v = r1
    · refine inn (o' := 36) rfl (by decide) (nx_wait h1) (by simp [msOk]; exact h5) (.sleep rfl rfl ?_ ?_)
      · simp [msA]
      · simp [msP, msL, rgZ, h1]
    · have h1' : ¬ r1 = v := fun e => h1 e.symm
      refine inn (o' := 36) rfl (by decide) (nx_wait' h1) (by simp [msOk]; exact h5) (.quiet rfl (.inl rfl) ?_ ?_)
      · simp [msA]
      · simp [msP, msL, rgZ, h1']
  · refine inn (o' := 29) rfl (by decide) rfl (by simp [msOk]; exact hok) (.quiet rfl (.inl rfl) ?_ ?_)
    · simp [msA]
    · simp [msP, msL, rgZ]

end Go.Mac
