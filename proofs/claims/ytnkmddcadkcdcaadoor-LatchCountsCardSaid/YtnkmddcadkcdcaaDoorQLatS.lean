/- Threads that wait at a latch, and count it down: each step keeps what holds. -/
import Derived.Test.YtnkmddcadkcdcaaDoorQLatZ
import Derived.Test.YtnkmddcadkcdcaaDoorGBase
open Go Go.Proofs Go.Mac
set_option maxRecDepth 100000
namespace Go.Mac

theorem dnl_at {l : List Bool} {j : Nat} {b : Bool} (h : l[j]? = some b) (y : ThZ) : dnG l ⟨j, y⟩ = cnt true l (j + 1) + dnN (some b) y.pc (rgZ y.rg 3) := by rw [dnG, h]
theorem wkl_at {l : List Bool} {j : Nat} {b : Bool} (h : l[j]? = some b) (y : ThZ) : wkG l ⟨j, y⟩ = wkN (some b) y.pc (rgZ y.rg 2) (rgZ y.rg 3) := by rw [wkG, h]
theorem lpl_at {v : Int} {l : List Bool} {j : Nat} {b : Bool} (h : l[j]? = some b) (o : Nat) (r : List Int) : lpG v l ⟨j, ⟨o, r, false⟩⟩ = 85 * (l.length - (j + 1)) + lpN v (some b) o (rgZ r 1) (rgZ r 3) + 1 := by rw [lpG, h]; rfl

theorem dnl_out {l : List Bool} (j : Nat) (r : List Int) : dnG l ⟨j + 1, ⟨0, r, false⟩⟩ = cnt true l (j + 1) := dn_next l (j + 1) _
theorem lpl_out (v : Int) {l : List Bool} (j : Nat) (r : List Int) : lpG v l ⟨j + 1, ⟨0, r, false⟩⟩ ≤ 85 * (l.length - (j + 1)) + 1 := by
  have := lp_next v l (j + 1) (rgZ r 1) (rgZ r 3)
  show 85 * (l.length - (j + 1 + 1)) + lpN v l[j + 1]? 0 (rgZ r 1) (rgZ r 3) + 1 ≤ _
  omega

theorem latA_snoc {al : List ActZ} (h : ∀ a ∈ al, latA a) {a : ActZ} (ha : latA a) : ∀ b ∈ al ++ [a], latA b := fun b hb => by
  rcases List.mem_append.1 hb with hb | hb
  · exact h b hb
  · rw [List.mem_singleton.1 hb]; exact ha

section
variable {B D n : Nat} {first : Int} {ls : Nat → List Bool} {gs : Nat → GZ} {v : Int} {m : MZ}

theorem lat_step (h : LatJ B D n first ls gs v m) {t : Nat} (hc : canZ m t = true) (hk : m.k < 20000) : ∃ v', LatN B D n first ls gs v m t v' := by
  obtain ⟨ht, hd, hno⟩ := h.sys.can hc
  obtain ⟨r1, r2, r3, hrg, haw, hcase⟩ := h.th t ht
  obtain ⟨g, hgt⟩ : ∃ g, gs t = g := ⟨_, rfl⟩
  rw [hgt] at hd hrg haw hcase
  obtain ⟨hv0, hv1⟩ := h.v0
  have hx := h.sys.ts t ht
  have hrr := (h.sys.wf.rg _ (List.mem_of_getElem? hx)).2 r1 (by rw [hgt]; show r1 ∈ g.y.rg; rw [hrg]; simp)
  have hfo := h.fo
  obtain ⟨j, o, rg, dn⟩ := g
  dsimp only at hd hrg haw hcase
  subst hd hrg
  rcases hcase with ⟨h1, _⟩ | ⟨_, ⟨b, hb, hok⟩ | ⟨rfl, rfl⟩⟩
  · cases h1
  · have haw' := haw
    cases b with
    | false =>
      obtain ⟨ho5, ok1, ok2, ok4⟩ := hok
      rcases (show o = 0 ∨ o = 1 ∨ o = 2 ∨ o = 3 ∨ o = 4 by omega) with rfl | rfl | rfl | rfl | rfl
      · skip
        have hi : insG ((ls t).map latB) ⟨j, ⟨0, [0, r1, r2, r3, 0, 0, 0, 0], false⟩⟩ = some ⟨6, 1, 0, 0, 0⟩ := lat_at hb _
        have hn : nextZ ⟨6, 1, 0, 0, 0⟩ ⟨0, [0, r1, r2, r3, 0, 0, 0, 0], false⟩ v = (⟨1, [0, v, r2, r3, 0, 0, 0, 0], false⟩, v, .act 6 v v) := rfl
        refine ⟨v, lat_plain h hc hk hgt hi (by decide) (d := 0) (g' := ⟨j, ⟨1, [0, v, r2, r3, 0, 0, 0, 0], false⟩⟩) hn (lat_in hb (show 1 < 5 from by decide)) (fun _ => rfl) ⟨_, _, _, rfl, haw', .inr ⟨rfl, .inl ⟨_, hb, (by simp [latOk] <;> omega)⟩⟩⟩ (by omega) (.inl ⟨rfl, rfl⟩) ?_ (fun hne => ?_) (fun hz hw => ?_) (latA_snoc hfo (.inl rfl)) ?_⟩
        · rw [dnl_at hb, dnl_at hb]; simp [dnN, rgZ] <;> omega
        · rw [dnl_at hb, dnl_at hb]; simp [dnN, rgZ] <;> omega
        · rw [wkl_at hb] at hw ⊢; simp [wkN, rgZ] at hw ⊢ <;> omega
        · rw [lpl_at hb, lpl_at hb]; simp [lpN, rgZ] <;> (repeat' split) <;> omega
      · have ok1 := ok1 rfl
        by_cases h1 : r1 = 0
        · skip
          have hi : insG ((ls t).map latB) ⟨j, ⟨1, [0, r1, r2, r3, 0, 0, 0, 0], false⟩⟩ = some ⟨11, 1, 0, 4, 0⟩ := lat_at hb _
          have hn : nextZ ⟨11, 1, 0, 4, 0⟩ ⟨1, [0, r1, r2, r3, 0, 0, 0, 0], false⟩ v = (⟨4, [0, r1, r2, r3, 0, 0, 0, 0], false⟩, v, .no) := by show ((if r1 = u64m 0 then _ else _ : ThZ), v, Eff.no) = _; rw [if_pos (by rw [h1]; rfl)]; rfl
          refine ⟨v, lat_plain h hc hk hgt hi (by decide) (d := 0) (g' := ⟨j, ⟨4, [0, r1, r2, r3, 0, 0, 0, 0], false⟩⟩) hn (lat_in hb (show 4 < 5 from by decide)) (fun _ => rfl) ⟨_, _, _, rfl, haw', .inr ⟨rfl, .inl ⟨_, hb, (by simp [latOk] <;> omega)⟩⟩⟩ (by omega) (.inl ⟨rfl, rfl⟩) ?_ (fun hne => ?_) (fun hz hw => ?_) hfo ?_⟩
          · rw [dnl_at hb, dnl_at hb]; simp [dnN, rgZ] <;> omega
          · rw [dnl_at hb, dnl_at hb]; simp [dnN, rgZ] <;> omega
          · rw [wkl_at hb] at hw ⊢; simp [wkN, rgZ] at hw ⊢ <;> omega
          · rw [lpl_at hb, lpl_at hb]; simp [lpN, rgZ] <;> (repeat' split) <;> omega
        · skip
          have hi : insG ((ls t).map latB) ⟨j, ⟨1, [0, r1, r2, r3, 0, 0, 0, 0], false⟩⟩ = some ⟨11, 1, 0, 4, 0⟩ := lat_at hb _
          have hn : nextZ ⟨11, 1, 0, 4, 0⟩ ⟨1, [0, r1, r2, r3, 0, 0, 0, 0], false⟩ v = (⟨2, [0, r1, r2, r3, 0, 0, 0, 0], false⟩, v, .no) := by show ((if r1 = u64m 0 then _ else _ : ThZ), v, Eff.no) = _; rw [if_neg (fun e => h1 (e.trans rfl))]
          refine ⟨v, lat_plain h hc hk hgt hi (by decide) (d := 0) (g' := ⟨j, ⟨2, [0, r1, r2, r3, 0, 0, 0, 0], false⟩⟩) hn (lat_in hb (show 2 < 5 from by decide)) (fun _ => rfl) ⟨_, _, _, rfl, haw', .inr ⟨rfl, .inl ⟨_, hb, (by simp [latOk] <;> omega)⟩⟩⟩ (by omega) (.inl ⟨rfl, rfl⟩) ?_ (fun hne => ?_) (fun hz hw => ?_) hfo ?_⟩
          · rw [dnl_at hb, dnl_at hb]; simp [dnN, rgZ] <;> omega
          · rw [dnl_at hb, dnl_at hb]; simp [dnN, rgZ] <;> omega
          · rw [wkl_at hb] at hw ⊢; simp [wkN, rgZ] at hw ⊢ <;> omega
          · rw [lpl_at hb, lpl_at hb]; simp [lpN, rgZ] <;> (repeat' split) <;> omega
      · have ok2 := ok2 rfl
        by_cases h1 : v = r1
        · have hi : insG ((ls t).map latB) ⟨j, ⟨2, [0, r1, r2, r3, 0, 0, 0, 0], false⟩⟩ = some ⟨14, 0, 1, 0, 0⟩ := lat_at hb _
          have hn : nextZ ⟨14, 0, 1, 0, 0⟩ ⟨2, [0, r1, r2, r3, 0, 0, 0, 0], false⟩ v = (⟨3, [0, r1, r2, r3, 0, 0, 0, 0], false⟩, v, .sleep) := by show (_, v, (if v = r1 then Eff.sleep else Eff.no)) = _; rw [if_pos h1]
          refine ⟨v, lat_upd h hc hk hgt hi (by decide) (d := 0) (g' := ⟨j, ⟨3, [0, r1, r2, r3, 0, 0, 0, 0], false⟩⟩) hn (lat_in hb (show 3 < 5 from by decide)) ⟨_, _, _, rfl, haw', .inr ⟨rfl, .inl ⟨_, hb, (by simp [latOk] <;> omega)⟩⟩⟩ (by omega) (.inl ⟨rfl, rfl⟩) ?_ (fun _ => ?_) (fun s hs => ?_) (fun _ hz => by omega) hfo ?_⟩
          · rw [dnl_at hb, dnl_at hb]; exact Int.le_refl _
          · rw [dnl_at hb, dnl_at hb]; rfl
          · rcases List.mem_append.1 hs with hs | hs
            · exact .inl hs
            · exact .inr ⟨List.mem_singleton.1 hs, hb, rfl, rfl⟩
          · rw [lpl_at hb, lpl_at hb, effS, List.length_append]; simp [lpN, rgZ, h1]; omega
        · skip
          have hi : insG ((ls t).map latB) ⟨j, ⟨2, [0, r1, r2, r3, 0, 0, 0, 0], false⟩⟩ = some ⟨14, 0, 1, 0, 0⟩ := lat_at hb _
          have hn : nextZ ⟨14, 0, 1, 0, 0⟩ ⟨2, [0, r1, r2, r3, 0, 0, 0, 0], false⟩ v = (⟨3, [0, r1, r2, r3, 0, 0, 0, 0], false⟩, v, .no) := by show (_, v, (if v = r1 then Eff.sleep else Eff.no)) = _; rw [if_neg h1]
          refine ⟨v, lat_plain h hc hk hgt hi (by decide) (d := 0) (g' := ⟨j, ⟨3, [0, r1, r2, r3, 0, 0, 0, 0], false⟩⟩) hn (lat_in hb (show 3 < 5 from by decide)) (fun _ => rfl) ⟨_, _, _, rfl, haw', .inr ⟨rfl, .inl ⟨_, hb, (by simp [latOk] <;> omega)⟩⟩⟩ (by omega) (.inl ⟨rfl, rfl⟩) ?_ (fun hne => ?_) (fun hz hw => ?_) hfo ?_⟩
          · rw [dnl_at hb, dnl_at hb]; simp [dnN, rgZ] <;> omega
          · rw [dnl_at hb, dnl_at hb]; simp [dnN, rgZ] <;> omega
          · rw [wkl_at hb] at hw ⊢; simp [wkN, rgZ] at hw ⊢ <;> omega
          · rw [lpl_at hb, lpl_at hb]; simp [lpN, rgZ] <;> (repeat' split) <;> omega
      · skip
        have hi : insG ((ls t).map latB) ⟨j, ⟨3, [0, r1, r2, r3, 0, 0, 0, 0], false⟩⟩ = some ⟨10, 0, 0, 0, 0⟩ := lat_at hb _
        have hn : nextZ ⟨10, 0, 0, 0, 0⟩ ⟨3, [0, r1, r2, r3, 0, 0, 0, 0], false⟩ v = (⟨0, [0, r1, r2, r3, 0, 0, 0, 0], false⟩, v, .no) := rfl
        refine ⟨v, lat_plain h hc hk hgt hi (by decide) (d := 0) (g' := ⟨j, ⟨0, [0, r1, r2, r3, 0, 0, 0, 0], false⟩⟩) hn (lat_in hb (show 0 < 5 from by decide)) (fun _ => rfl) ⟨_, _, _, rfl, haw', .inr ⟨rfl, .inl ⟨_, hb, (by simp [latOk] <;> omega)⟩⟩⟩ (by omega) (.inl ⟨rfl, rfl⟩) ?_ (fun hne => ?_) (fun hz hw => ?_) hfo ?_⟩
        · rw [dnl_at hb, dnl_at hb]; simp [dnN, rgZ] <;> omega
        · rw [dnl_at hb, dnl_at hb]; simp [dnN, rgZ] <;> omega
        · rw [wkl_at hb] at hw ⊢; simp [wkN, rgZ] at hw ⊢ <;> omega
        · rw [lpl_at hb, lpl_at hb]; simp [lpN, rgZ] <;> (repeat' split) <;> omega
      · have ok4 := ok4 rfl
        have haw' : v ≠ 0 → ∀ i, i < j + 1 → (ls t)[i]? ≠ some false := fun hne => absurd ok4 hne
        have hi : insG ((ls t).map latB) ⟨j, ⟨4, [0, r1, r2, r3, 0, 0, 0, 0], false⟩⟩ = some ⟨16, 3, 1, 0, 0⟩ := lat_at hb _
        have hn : nextZ ⟨16, 3, 1, 0, 0⟩ ⟨4, [0, r1, r2, r3, 0, 0, 0, 0], false⟩ v = (⟨5, [0, r1, r2, r3, 0, 0, 0, 0], false⟩, v, .say 3 (IntKind.i64.wrap r1)) := rfl
        have po := lpl_out v (l := ls t) j [0, r1, r2, r3, 0, 0, 0, 0]
        have hjl := (List.getElem?_eq_some_iff.1 hb).1
        refine ⟨v, lat_plain h hc hk hgt hi (by decide) (d := 0) (g' := ⟨j + 1, ⟨0, [0, r1, r2, r3, 0, 0, 0, 0], false⟩⟩) hn (lat_out hb rfl) (fun _ => rfl) (lat_G hb haw' _ _ _) (by omega) (.inl ⟨rfl, rfl⟩) (by rw [dnl_out, dnl_at hb]; simp [dnN]) (fun _ => by rw [dnl_out, dnl_at hb]; simp [dnN]) (fun hz hw => ?_) hfo (by rw [lpl_at hb]; show _ ≤ _ + 1 + 1; omega)⟩
        rcases hw with hw | hw
        · exact absurd hz hw
        · rw [wkl_at hb] at hw; cases hw
    | true =>
      obtain ⟨ho10, ok1, ok2, ok3, ok4⟩ := hok
      rcases (show o = 0 ∨ o = 1 ∨ o = 2 ∨ o = 3 ∨ o = 4 ∨ o = 5 ∨ o = 6 ∨ o = 7 ∨ o = 8 ∨ o = 9 by omega) with rfl | rfl | rfl | rfl | rfl | rfl | rfl | rfl | rfl | rfl
      · skip
        have hi : insG ((ls t).map latB) ⟨j, ⟨0, [0, r1, r2, r3, 0, 0, 0, 0], false⟩⟩ = some ⟨6, 1, 0, 0, 0⟩ := lat_at hb _
        have hn : nextZ ⟨6, 1, 0, 0, 0⟩ ⟨0, [0, r1, r2, r3, 0, 0, 0, 0], false⟩ v = (⟨1, [0, v, r2, r3, 0, 0, 0, 0], false⟩, v, .act 6 v v) := rfl
        refine ⟨v, lat_plain h hc hk hgt hi (by decide) (d := 0) (g' := ⟨j, ⟨1, [0, v, r2, r3, 0, 0, 0, 0], false⟩⟩) hn (lat_in hb (show 1 < 10 from by decide)) (fun _ => rfl) ⟨_, _, _, rfl, haw', .inr ⟨rfl, .inl ⟨_, hb, (by simp [latOk] <;> omega)⟩⟩⟩ (by omega) (.inl ⟨rfl, rfl⟩) ?_ (fun hne => ?_) (fun hz hw => ?_) (latA_snoc hfo (.inl rfl)) ?_⟩
        · rw [dnl_at hb, dnl_at hb]; simp [dnN, rgZ] <;> omega
        · rw [dnl_at hb, dnl_at hb]; simp [dnN, rgZ] <;> omega
        · rw [wkl_at hb] at hw ⊢; simp [wkN, rgZ] at hw ⊢ <;> omega
        · rw [lpl_at hb, lpl_at hb]; simp [lpN, rgZ] <;> (repeat' split) <;> omega
      · have ok1 := ok1 rfl
        by_cases h1 : r1 = 0
        · have hv := ok1 h1
          have hi : insG ((ls t).map latB) ⟨j, ⟨1, [0, r1, r2, r3, 0, 0, 0, 0], false⟩⟩ = some ⟨11, 1, 0, 9, 0⟩ := lat_at hb _
          have hn : nextZ ⟨11, 1, 0, 9, 0⟩ ⟨1, [0, r1, r2, r3, 0, 0, 0, 0], false⟩ v = (⟨9, [0, r1, r2, r3, 0, 0, 0, 0], false⟩, v, .no) := by show ((if r1 = u64m 0 then _ else _ : ThZ), v, Eff.no) = _; rw [if_pos (by rw [h1]; rfl)]; rfl
          refine ⟨v, lat_plain h hc hk hgt hi (by decide) (d := 0) (g' := ⟨j, ⟨9, [0, r1, r2, r3, 0, 0, 0, 0], false⟩⟩) hn (lat_in hb (show 9 < 10 from by decide)) (fun _ => rfl) ⟨_, _, _, rfl, haw', .inr ⟨rfl, .inl ⟨_, hb, (by simp [latOk] <;> omega)⟩⟩⟩ (by omega) (.inl ⟨rfl, rfl⟩) ?_ (fun hne => ?_) (fun hz hw => ?_) hfo ?_⟩
          · rw [dnl_at hb, dnl_at hb]; simp [dnN, rgZ] <;> omega
          · rw [dnl_at hb, dnl_at hb]; simp [dnN, rgZ] <;> omega
          · rw [wkl_at hb] at hw ⊢; simp [wkN, rgZ] at hw ⊢ <;> omega
          · rw [lpl_at hb, lpl_at hb]; simp [lpN, rgZ] <;> (repeat' split) <;> omega
        · skip
          have hi : insG ((ls t).map latB) ⟨j, ⟨1, [0, r1, r2, r3, 0, 0, 0, 0], false⟩⟩ = some ⟨11, 1, 0, 9, 0⟩ := lat_at hb _
          have hn : nextZ ⟨11, 1, 0, 9, 0⟩ ⟨1, [0, r1, r2, r3, 0, 0, 0, 0], false⟩ v = (⟨2, [0, r1, r2, r3, 0, 0, 0, 0], false⟩, v, .no) := by show ((if r1 = u64m 0 then _ else _ : ThZ), v, Eff.no) = _; rw [if_neg (fun e => h1 (e.trans rfl))]
          refine ⟨v, lat_plain h hc hk hgt hi (by decide) (d := 0) (g' := ⟨j, ⟨2, [0, r1, r2, r3, 0, 0, 0, 0], false⟩⟩) hn (lat_in hb (show 2 < 10 from by decide)) (fun _ => rfl) ⟨_, _, _, rfl, haw', .inr ⟨rfl, .inl ⟨_, hb, (by simp [latOk] <;> omega)⟩⟩⟩ (by omega) (.inl ⟨rfl, rfl⟩) ?_ (fun hne => ?_) (fun hz hw => ?_) hfo ?_⟩
          · rw [dnl_at hb, dnl_at hb]; simp [dnN, rgZ] <;> omega
          · rw [dnl_at hb, dnl_at hb]; simp [dnN, rgZ] <;> omega
          · rw [wkl_at hb] at hw ⊢; simp [wkN, rgZ] at hw ⊢ <;> omega
          · rw [lpl_at hb, lpl_at hb]; simp [lpN, rgZ] <;> (repeat' split) <;> omega
      · have ok2 := ok2 rfl
        have hu : u64m (r1 + u64m (-1)) = r1 - 1 := by rw [u64m, show u64m (-1) = 18446744073709551615 by rfl, wrap_u64_mod]; omega
        have hi : insG ((ls t).map latB) ⟨j, ⟨2, [0, r1, r2, r3, 0, 0, 0, 0], false⟩⟩ = some ⟨3, 2, 1, -1, 0⟩ := lat_at hb _
        have hn : nextZ ⟨3, 2, 1, -1, 0⟩ ⟨2, [0, r1, r2, r3, 0, 0, 0, 0], false⟩ v = (⟨3, [0, r1, r1 - 1, r3, 0, 0, 0, 0], false⟩, v, .no) := by show ((⟨3, [0, r1, u64m (r1 + u64m (-1)), r3, 0, 0, 0, 0], false⟩ : ThZ), v, Eff.no) = _; rw [hu]
        refine ⟨v, lat_plain h hc hk hgt hi (by decide) (d := 0) (g' := ⟨j, ⟨3, [0, r1, r1 - 1, r3, 0, 0, 0, 0], false⟩⟩) hn (lat_in hb (show 3 < 10 from by decide)) (fun _ => rfl) ⟨_, _, _, rfl, haw', .inr ⟨rfl, .inl ⟨_, hb, (by simp [latOk] <;> omega)⟩⟩⟩ (by omega) (.inl ⟨rfl, rfl⟩) ?_ (fun hne => ?_) (fun hz hw => ?_) hfo ?_⟩
        · rw [dnl_at hb, dnl_at hb]; simp [dnN, rgZ] <;> omega
        · rw [dnl_at hb, dnl_at hb]; simp [dnN, rgZ] <;> omega
        · rw [wkl_at hb] at hw ⊢; simp [wkN, rgZ] at hw ⊢ <;> omega
        · rw [lpl_at hb, lpl_at hb]; simp [lpN, rgZ] <;> (repeat' split) <;> omega
      · obtain ⟨ok3, rfl⟩ := ok3 rfl
        by_cases h1 : v = r1
        · have haw' : r1 - 1 ≠ 0 → ∀ i, i < j → (ls t)[i]? ≠ some false := fun _ => haw (by omega)
          have hi : insG ((ls t).map latB) ⟨j, ⟨3, [0, r1, r1 - 1, r3, 0, 0, 0, 0], false⟩⟩ = some ⟨9, 3, 0, 1, 2⟩ := lat_at hb _
          have hn : nextZ ⟨9, 3, 0, 1, 2⟩ ⟨3, [0, r1, r1 - 1, r3, 0, 0, 0, 0], false⟩ v = (⟨4, [0, r1, r1 - 1, 1, 0, 0, 0, 0], false⟩, (r1 - 1), .act 9 v (r1 - 1)) := by show (if v = r1 then _ else _) = _; rw [if_pos h1]; rfl
          refine ⟨(r1 - 1), lat_plain h hc hk hgt hi (by decide) (d := 5) (g' := ⟨j, ⟨4, [0, r1, r1 - 1, 1, 0, 0, 0, 0], false⟩⟩) hn (lat_in hb (show 4 < 10 from by decide)) (fun _ => rfl) ⟨_, _, _, rfl, haw', .inr ⟨rfl, .inl ⟨_, hb, (by simp [latOk] <;> omega)⟩⟩⟩ (by omega) (.inr rfl) ?_ (fun hne => ?_) (fun hz hw => ?_) (latA_snoc hfo (.inr ⟨rfl, by show 0 < v; omega, hv1, by show r1 - 1 = v - 1; omega⟩)) ?_⟩
          · rw [dnl_at hb, dnl_at hb]; simp [dnN, rgZ] <;> omega
          · rw [dnl_at hb, dnl_at hb]; simp [dnN, rgZ] <;> omega
          · rw [wkl_at hb] at hw ⊢; simp [wkN, rgZ] at hw ⊢ <;> omega
          · rw [lpl_at hb, lpl_at hb]; simp [lpN, rgZ] <;> (repeat' split) <;> omega
        · skip
          have hi : insG ((ls t).map latB) ⟨j, ⟨3, [0, r1, r1 - 1, r3, 0, 0, 0, 0], false⟩⟩ = some ⟨9, 3, 0, 1, 2⟩ := lat_at hb _
          have hn : nextZ ⟨9, 3, 0, 1, 2⟩ ⟨3, [0, r1, r1 - 1, r3, 0, 0, 0, 0], false⟩ v = (⟨4, [0, r1, r1 - 1, 0, 0, 0, 0, 0], false⟩, v, .act 9 v v) := by show (if v = r1 then _ else _) = _; rw [if_neg h1]; rfl
          refine ⟨v, lat_plain h hc hk hgt hi (by decide) (d := 0) (g' := ⟨j, ⟨4, [0, r1, r1 - 1, 0, 0, 0, 0, 0], false⟩⟩) hn (lat_in hb (show 4 < 10 from by decide)) (fun _ => rfl) ⟨_, _, _, rfl, haw', .inr ⟨rfl, .inl ⟨_, hb, (by simp [latOk] <;> omega)⟩⟩⟩ (by omega) (.inl ⟨rfl, rfl⟩) ?_ (fun hne => ?_) (fun hz hw => ?_) (latA_snoc hfo (.inl rfl)) ?_⟩
          · rw [dnl_at hb, dnl_at hb]; simp [dnN, rgZ] <;> omega
          · rw [dnl_at hb, dnl_at hb]; simp [dnN, rgZ] <;> omega
          · rw [wkl_at hb] at hw ⊢; simp [wkN, rgZ] at hw ⊢ <;> omega
          · rw [lpl_at hb, lpl_at hb]; simp [lpN, rgZ] <;> (repeat' split) <;> omega
      · rcases ok4 rfl with rfl | rfl
        · skip
          have hi : insG ((ls t).map latB) ⟨j, ⟨4, [0, r1, r2, 0, 0, 0, 0, 0], false⟩⟩ = some ⟨11, 3, 0, 0, 0⟩ := lat_at hb _
          have hn : nextZ ⟨11, 3, 0, 0, 0⟩ ⟨4, [0, r1, r2, 0, 0, 0, 0, 0], false⟩ v = (⟨0, [0, r1, r2, 0, 0, 0, 0, 0], false⟩, v, .no) := rfl
          refine ⟨v, lat_plain h hc hk hgt hi (by decide) (d := 0) (g' := ⟨j, ⟨0, [0, r1, r2, 0, 0, 0, 0, 0], false⟩⟩) hn (lat_in hb (show 0 < 10 from by decide)) (fun _ => rfl) ⟨_, _, _, rfl, haw', .inr ⟨rfl, .inl ⟨_, hb, (by simp [latOk] <;> omega)⟩⟩⟩ (by omega) (.inl ⟨rfl, rfl⟩) ?_ (fun hne => ?_) (fun hz hw => ?_) hfo ?_⟩
          · rw [dnl_at hb, dnl_at hb]; simp [dnN, rgZ] <;> omega
          · rw [dnl_at hb, dnl_at hb]; simp [dnN, rgZ] <;> omega
          · rw [wkl_at hb] at hw ⊢; simp [wkN, rgZ] at hw ⊢ <;> omega
          · rw [lpl_at hb, lpl_at hb]; simp [lpN, rgZ] <;> (repeat' split) <;> omega
        · skip
          have hi : insG ((ls t).map latB) ⟨j, ⟨4, [0, r1, r2, 1, 0, 0, 0, 0], false⟩⟩ = some ⟨11, 3, 0, 0, 0⟩ := lat_at hb _
          have hn : nextZ ⟨11, 3, 0, 0, 0⟩ ⟨4, [0, r1, r2, 1, 0, 0, 0, 0], false⟩ v = (⟨5, [0, r1, r2, 1, 0, 0, 0, 0], false⟩, v, .no) := rfl
          refine ⟨v, lat_plain h hc hk hgt hi (by decide) (d := 0) (g' := ⟨j, ⟨5, [0, r1, r2, 1, 0, 0, 0, 0], false⟩⟩) hn (lat_in hb (show 5 < 10 from by decide)) (fun _ => rfl) ⟨_, _, _, rfl, haw', .inr ⟨rfl, .inl ⟨_, hb, (by simp [latOk] <;> omega)⟩⟩⟩ (by omega) (.inl ⟨rfl, rfl⟩) ?_ (fun hne => ?_) (fun hz hw => ?_) hfo ?_⟩
          · rw [dnl_at hb, dnl_at hb]; simp [dnN, rgZ] <;> omega
          · rw [dnl_at hb, dnl_at hb]; simp [dnN, rgZ] <;> omega
          · rw [wkl_at hb] at hw ⊢; simp [wkN, rgZ] at hw ⊢ <;> omega
          · rw [lpl_at hb, lpl_at hb]; simp [lpN, rgZ] <;> (repeat' split) <;> omega
      · skip
        have hi : insG ((ls t).map latB) ⟨j, ⟨5, [0, r1, r2, r3, 0, 0, 0, 0], false⟩⟩ = some ⟨2, 1, 2, 0, 0⟩ := lat_at hb _
        have hn : nextZ ⟨2, 1, 2, 0, 0⟩ ⟨5, [0, r1, r2, r3, 0, 0, 0, 0], false⟩ v = (⟨6, [0, r2, r2, r3, 0, 0, 0, 0], false⟩, v, .no) := rfl
        refine ⟨v, lat_plain h hc hk hgt hi (by decide) (d := 0) (g' := ⟨j, ⟨6, [0, r2, r2, r3, 0, 0, 0, 0], false⟩⟩) hn (lat_in hb (show 6 < 10 from by decide)) (fun _ => rfl) ⟨_, _, _, rfl, haw', .inr ⟨rfl, .inl ⟨_, hb, (by simp [latOk] <;> omega)⟩⟩⟩ (by omega) (.inl ⟨rfl, rfl⟩) ?_ (fun hne => ?_) (fun hz hw => ?_) hfo ?_⟩
        · rw [dnl_at hb, dnl_at hb]; simp [dnN, rgZ] <;> omega
        · rw [dnl_at hb, dnl_at hb]; simp [dnN, rgZ] <;> omega
        · rw [wkl_at hb] at hw ⊢; simp [wkN, rgZ] at hw ⊢ <;> omega
        · rw [lpl_at hb, lpl_at hb]; simp [lpN, rgZ] <;> (repeat' split) <;> omega
      · by_cases h1 : r2 = 0
        · skip
          have hi : insG ((ls t).map latB) ⟨j, ⟨6, [0, r1, r2, r3, 0, 0, 0, 0], false⟩⟩ = some ⟨11, 2, 0, 8, 0⟩ := lat_at hb _
          have hn : nextZ ⟨11, 2, 0, 8, 0⟩ ⟨6, [0, r1, r2, r3, 0, 0, 0, 0], false⟩ v = (⟨8, [0, r1, r2, r3, 0, 0, 0, 0], false⟩, v, .no) := by show ((if r2 = u64m 0 then _ else _ : ThZ), v, Eff.no) = _; rw [if_pos (by rw [h1]; rfl)]; rfl
          refine ⟨v, lat_plain h hc hk hgt hi (by decide) (d := 0) (g' := ⟨j, ⟨8, [0, r1, r2, r3, 0, 0, 0, 0], false⟩⟩) hn (lat_in hb (show 8 < 10 from by decide)) (fun _ => rfl) ⟨_, _, _, rfl, haw', .inr ⟨rfl, .inl ⟨_, hb, (by simp [latOk] <;> omega)⟩⟩⟩ (by omega) (.inl ⟨rfl, rfl⟩) ?_ (fun hne => ?_) (fun hz hw => ?_) hfo ?_⟩
          · rw [dnl_at hb, dnl_at hb]; simp [dnN, rgZ] <;> omega
          · rw [dnl_at hb, dnl_at hb]; simp [dnN, rgZ] <;> omega
          · rw [wkl_at hb] at hw ⊢; simp [wkN, rgZ] at hw ⊢ <;> omega
          · rw [lpl_at hb, lpl_at hb]; simp [lpN, rgZ] <;> (repeat' split) <;> omega
        · skip
          have hi : insG ((ls t).map latB) ⟨j, ⟨6, [0, r1, r2, r3, 0, 0, 0, 0], false⟩⟩ = some ⟨11, 2, 0, 8, 0⟩ := lat_at hb _
          have hn : nextZ ⟨11, 2, 0, 8, 0⟩ ⟨6, [0, r1, r2, r3, 0, 0, 0, 0], false⟩ v = (⟨7, [0, r1, r2, r3, 0, 0, 0, 0], false⟩, v, .no) := by show ((if r2 = u64m 0 then _ else _ : ThZ), v, Eff.no) = _; rw [if_neg (fun e => h1 (e.trans rfl))]
          refine ⟨v, lat_plain h hc hk hgt hi (by decide) (d := 0) (g' := ⟨j, ⟨7, [0, r1, r2, r3, 0, 0, 0, 0], false⟩⟩) hn (lat_in hb (show 7 < 10 from by decide)) (fun _ => rfl) ⟨_, _, _, rfl, haw', .inr ⟨rfl, .inl ⟨_, hb, (by simp [latOk] <;> omega)⟩⟩⟩ (by omega) (.inl ⟨rfl, rfl⟩) ?_ (fun hne => ?_) (fun hz hw => ?_) hfo ?_⟩
          · rw [dnl_at hb, dnl_at hb]; simp [dnN, rgZ] <;> omega
          · rw [dnl_at hb, dnl_at hb]; simp [dnN, rgZ] <;> omega
          · rw [wkl_at hb] at hw ⊢; simp [wkN, rgZ] at hw ⊢ <;> omega
          · rw [lpl_at hb, lpl_at hb]; simp [lpN, rgZ] <;> (repeat' split) <;> omega
      · skip
        have hi : insG ((ls t).map latB) ⟨j, ⟨7, [0, r1, r2, r3, 0, 0, 0, 0], false⟩⟩ = some ⟨10, 9, 0, 0, 0⟩ := lat_at hb _
        have hn : nextZ ⟨10, 9, 0, 0, 0⟩ ⟨7, [0, r1, r2, r3, 0, 0, 0, 0], false⟩ v = (⟨9, [0, r1, r2, r3, 0, 0, 0, 0], false⟩, v, .no) := rfl
        refine ⟨v, lat_plain h hc hk hgt hi (by decide) (d := 0) (g' := ⟨j, ⟨9, [0, r1, r2, r3, 0, 0, 0, 0], false⟩⟩) hn (lat_in hb (show 9 < 10 from by decide)) (fun _ => rfl) ⟨_, _, _, rfl, haw', .inr ⟨rfl, .inl ⟨_, hb, (by simp [latOk] <;> omega)⟩⟩⟩ (by omega) (.inl ⟨rfl, rfl⟩) ?_ (fun hne => ?_) (fun hz hw => ?_) hfo ?_⟩
        · rw [dnl_at hb, dnl_at hb]; simp [dnN, rgZ] <;> omega
        · rw [dnl_at hb, dnl_at hb]; simp [dnN, rgZ] <;> omega
        · rw [wkl_at hb] at hw ⊢; simp [wkN, rgZ] at hw ⊢ <;> omega
        · rw [lpl_at hb, lpl_at hb]; simp [lpN, rgZ] <;> (repeat' split) <;> omega
      · have hi : insG ((ls t).map latB) ⟨j, ⟨8, [0, r1, r2, r3, 0, 0, 0, 0], false⟩⟩ = some ⟨15, 0, 16, -1, 0⟩ := lat_at hb _
        have hn : nextZ ⟨15, 0, 16, -1, 0⟩ ⟨8, [0, r1, r2, r3, 0, 0, 0, 0], false⟩ v = (⟨9, [0, r1, r2, r3, 0, 0, 0, 0], false⟩, v, .wake 16) := rfl
        have hsl := ss_len h.sys.wf
        rw [h.sys.ln] at hsl
        have hn9 := h.hn
        have hwk : effS t m.ss (.wake 16) = [] := latWake (fun s hs => (h.sl s hs).1) (by omega)
        refine ⟨v, lat_upd h hc hk hgt hi (by decide) (d := 0) (g' := ⟨j, ⟨9, [0, r1, r2, r3, 0, 0, 0, 0], false⟩⟩) hn (lat_in hb (show 9 < 10 from by decide)) ⟨_, _, _, rfl, haw', .inr ⟨rfl, .inl ⟨_, hb, (by simp [latOk] <;> omega)⟩⟩⟩ (by omega) (.inl ⟨rfl, rfl⟩) ?_ (fun _ => ?_) (fun s hs => ?_) (fun hne => ?_) hfo ?_⟩
        · rw [dnl_at hb, dnl_at hb]; exact Int.le_refl _
        · rw [dnl_at hb, dnl_at hb]; rfl
        · rw [hwk] at hs; cases hs
        · exact absurd hwk hne
        · rw [lpl_at hb, lpl_at hb, hwk]; simp [lpN]; omega
      · have haw' : v ≠ 0 → ∀ i, i < j + 1 → (ls t)[i]? ≠ some false := fun hne i hi => by
          rcases (show i < j ∨ i = j by omega) with h1 | rfl
          · exact haw hne i h1
          · rw [hb]; simp
        have hi : insG ((ls t).map latB) ⟨j, ⟨9, [0, r1, r2, r3, 0, 0, 0, 0], false⟩⟩ = some ⟨16, 3, 1, 0, 0⟩ := lat_at hb _
        have hn : nextZ ⟨16, 3, 1, 0, 0⟩ ⟨9, [0, r1, r2, r3, 0, 0, 0, 0], false⟩ v = (⟨10, [0, r1, r2, r3, 0, 0, 0, 0], false⟩, v, .say 3 (IntKind.i64.wrap r1)) := rfl
        have po := lpl_out v (l := ls t) j [0, r1, r2, r3, 0, 0, 0, 0]
        have hjl := (List.getElem?_eq_some_iff.1 hb).1
        refine ⟨v, lat_plain h hc hk hgt hi (by decide) (d := 0) (g' := ⟨j + 1, ⟨0, [0, r1, r2, r3, 0, 0, 0, 0], false⟩⟩) hn (lat_out hb rfl) (fun _ => rfl) (lat_G hb haw' _ _ _) (by omega) (.inl ⟨rfl, rfl⟩) (by rw [dnl_out, dnl_at hb]; simp [dnN]) (fun _ => by rw [dnl_out, dnl_at hb]; simp [dnN]) (fun hz hw => ?_) hfo (by rw [lpl_at hb]; show _ ≤ _ + 1 + 1; omega)⟩
        rcases hw with hw | hw
        · exact absurd hz hw
        · rw [wkl_at hb] at hw; cases hw
  · have hb : (ls t)[(ls t).length]? = none := List.getElem?_eq_none_iff.2 (Nat.le_refl _)
    have hi : insG ((ls t).map latB) ⟨(ls t).length, ⟨0, [0, r1, r2, r3, 0, 0, 0, 0], false⟩⟩ = some ⟨0, 0, 0, 0, 0⟩ := by
      rw [insG]
      simp
    have hn : nextZ ⟨0, 0, 0, 0, 0⟩ ⟨0, [0, r1, r2, r3, 0, 0, 0, 0], false⟩ v = (⟨1, [0, r1, r2, r3, 0, 0, 0, 0], true⟩, v, .no) := rfl
    refine ⟨v, lat_plain h hc hk hgt hi (by decide) (d := 0) (g' := ⟨(ls t).length, ⟨1, [0, r1, r2, r3, 0, 0, 0, 0], true⟩⟩) hn (by rw [normG]; simp) (fun _ => rfl) ⟨_, _, _, rfl, haw, .inl ⟨rfl, rfl⟩⟩ (by omega) (.inl ⟨rfl, rfl⟩) ?_ (fun _ => ?_) (fun hz hw => ?_) hfo ?_⟩
    · simp only [dnG, hb]; exact Int.le_refl _
    · simp only [dnG, hb]; rfl
    · rcases hw with hw | hw
      · exact absurd hz hw
      · simp only [wkG, hb] at hw; cases hw
    · simp only [lpG, hb]; simp [lpN]

end
end Go.Mac
