/- PhaserStays: true. -/
import Derived.Test.YteblgbclhaajpaaQPhLaw
open Go Go.Proofs Go.Mac
set_option maxRecDepth 100000
namespace Go.Mac

structure CallZ where
  w : Int
  n : Int

abbrev rowCallZ (x : CallZ) : List FC := [.int .i64 x.w, .int .i64 x.n]

theorem phDo_stays {p r : Ph} {w n a : Int} (hR : p.right = true) (h : phDo p w n = some (r, a)) :
    r.right = true ∧ (r.ph = p.ph ∨ r.ph = (p.ph + 1) % 2147483648) ∧ (p.o = true → r = p ∧ a = -1) ∧ -4 ≤ a := by
  have hb := rightB_iff.1 hR
  unfold phDo at h
  split at h
  · cases h
  split at h
  · cases h; exact ⟨hR, .inl rfl, fun _ => ⟨rfl, rfl⟩, by decide⟩
  rename_i hF ho
  simp only [not_or, Bool.not_eq_false] at hF
  have ho' : p.o = true → False := fun h => ho h
  split at h
  · rename_i h6
    subst h6
    have hn : 1 ≤ n ∧ n ≤ 65535 := by have := hF.2.1; simpa [fitsB] using this
    split at h <;> cases h
    · exact ⟨hR, .inl rfl, fun h => (ho' h).elim, by decide⟩
    · exact ⟨rightB_iff.2 (by simp only; omega), .inl rfl, fun h => (ho' h).elim, by omega⟩
  split at h
  · split at h <;> cases h
    · exact ⟨hR, .inl rfl, fun h => (ho' h).elim, by decide⟩
    · exact ⟨hR, .inl rfl, fun h => (ho' h).elim, by omega⟩
  split at h
  · cases h; exact ⟨hR, .inl rfl, fun h => (ho' h).elim, by decide⟩
  split at h
  · cases h; exact ⟨hR, .inl rfl, fun h => (ho' h).elim, by decide⟩
  rename_i hw0
  have hpa : p.pa - 1 ≤ (if w = 8 then p.pa - 1 else p.pa) ∧ (if w = 8 then p.pa - 1 else p.pa) ≤ p.pa := by split <;> omega
  generalize (if w = 8 then p.pa - 1 else p.pa) = pa' at *
  split at h
  · cases h
    exact ⟨rightB_iff.2 (by simp only; omega), .inl rfl, fun h => (ho' h).elim, by omega⟩
  split at h
  · cases h
    exact ⟨rightB_iff.2 (by simp only; omega), .inl rfl, fun h => (ho' h).elim, by omega⟩
  · cases h
    exact ⟨rightB_iff.2 (by simp only; omega), .inr rfl, fun h => (ho' h).elim, by omega⟩

theorem phaserStays (o : Bool) (ph pa wa : Int) (l : List CallZ) : Does Try.prog 3 [phase o ph pa wa, cv (.slc 0 0 l.length none false)] [.rows true 2 (l.map rowCallZ)] fun v _ _ => v = bl true := by
  refine does Try.func3 rfl (by decide) ?_
  change Does Try.prog 14 _ _ _
  refine Does.alone 2 (phased ?_)
  change Does Try.prog 15 _ _ _
  refine Does.alone 2 (packs ?_)
  refine brc_intro (fun _ => fin rfl) (fun h60 => ?_)
  have h60 := of_decide_eq_false h60
  change Does Try.prog 16 _ _ _
  refine Does.alone 2 (right _ _ _ _ ?_)
  refine brc_intro (fun _ => fin rfl) (fun hr => ?_)
  have hR : rightB ph pa wa = true := by simpa using hr
  refine SS.loop (fun x : Nat × Ph => x.1 ≤ l.length ∧ x.2.right = true) (fun x => [(2, cv (.ptr 1 0)), (24, cv (.slc 0 0 l.length none false)), (25, i64 l.length), (26, i64 x.1)])
    (fun x => [.rows true 2 (l.map rowCallZ), .one [.f (.bool x.2.o), .f (.int .i64 x.2.ph), .f (.int .i64 x.2.pa), .f (.int .i64 x.2.wa)]]) (fun x => l.length - x.1) []
    (At.mk' [2, 24, 25, 26] (0, ⟨o, ph, pa, wa⟩) ⟨by simp, hR⟩ ⟨rfl, rfl⟩ rfl rfl (by simp) (by simp) (by simp)) ?_
  rintro ⟨i, p⟩ ⟨hi, hp⟩
  have hb := rightB_iff.1 hp
  refine S_r ?_
  refine brc_intro (fun h => ?_) (fun h => ?_)
  · have hlt : i < l.length := by have := of_decide_eq_true h; simpa using this
    obtain ⟨c, hc⟩ : ∃ c, l[i]? = some c := ⟨_, List.getElem?_eq_getElem hlt⟩
    refine SS.inlR ?_
    refine at2 (by simp) (by simpa using hlt) (rdA (rowCallZ c) (by simp [hc]) ?_)
    change Does Try.prog 17 _ _ _
    refine Does.alone 3 (phaserDo p c.w c.n (fun hn => ?_) fun r a hd => ?_)
    · refine At.mk' [2, 24, 25, 26] (i + 1, p) ⟨⟨hlt, hp⟩, by simp only at hlt ⊢; omega⟩ ⟨?_, rfl⟩ rfl rfl (by simp) (by simp) (by simp)
      rw [wrap_i64 _ (by omega) (by simp only at hlt ⊢; omega)]
      rfl
    · obtain ⟨k1, k2, k3, k4⟩ := phDo_stays hp hd
      change Does Try.prog 16 _ _ _
      refine Does.alone 4 (right _ _ _ _ ?_)
      have kb := rightB_iff.1 k1
      have ew : Int.tmod (IntKind.i64.wrap (p.ph + 1)) 2147483648 = (p.ph + 1) % 2147483648 := by
        simp only at hb
        rw [wrap_i64 _ (by omega) (by omega), Int.tmod_eq_emod_of_nonneg (by omega)]
      refine brc_intro (fun h => absurd h (by have : rightB r.ph r.pa r.wa = true := k1; simp [this])) (fun _ => ?_)
      refine brc_intro (fun hd1 => ?_) (fun hd1 => ?_)
      · refine brc_intro (fun h => ?_) (fun _ => ?_)
        · have h : (r.ph != Int.tmod (IntKind.i64.wrap (p.ph + 1)) 2147483648) = true := h
          rw [ew] at h
          rcases k2 with k2 | k2
          · simp [k2] at hd1
          · simp [k2] at h
        · refine brc_intro (fun hpo => ?_) (fun hpo => ?_)
          · obtain ⟨rfl, rfl⟩ := k3 hpo
            refine And.intro plainPhase ?_
            refine brc_intro (fun h => absurd h (by simp)) (fun _ => ?_)
            refine At.mk' [2, 24, 25, 26] (i + 1, r) ⟨⟨hlt, k1⟩, by simp only at hlt ⊢; omega⟩ ⟨?_, rfl⟩ rfl rfl (by simp) (by simp) (by simp)
            rw [wrap_i64 _ (by omega) (by simp only at hlt ⊢; omega)]
            rfl
          · refine brc_intro (fun h => absurd h (by simp; omega)) (fun _ => ?_)
            refine At.mk' [2, 24, 25, 26] (i + 1, r) ⟨⟨hlt, k1⟩, by simp only at hlt ⊢; omega⟩ ⟨?_, rfl⟩ rfl rfl (by simp) (by simp) (by simp)
            rw [wrap_i64 _ (by omega) (by simp only at hlt ⊢; omega)]
            rfl
      · refine brc_intro (fun hpo => ?_) (fun hpo => ?_)
        · obtain ⟨rfl, rfl⟩ := k3 hpo
          refine And.intro plainPhase ?_
          refine brc_intro (fun h => absurd h (by simp)) (fun _ => ?_)
          refine At.mk' [2, 24, 25, 26] (i + 1, r) ⟨⟨hlt, k1⟩, by simp only at hlt ⊢; omega⟩ ⟨?_, rfl⟩ rfl rfl (by simp) (by simp) (by simp)
          rw [wrap_i64 _ (by omega) (by simp only at hlt ⊢; omega)]
          rfl
        · refine brc_intro (fun h => absurd h (by simp; omega)) (fun _ => ?_)
          refine At.mk' [2, 24, 25, 26] (i + 1, r) ⟨⟨hlt, k1⟩, by simp only at hlt ⊢; omega⟩ ⟨?_, rfl⟩ rfl rfl (by simp) (by simp) (by simp)
          rw [wrap_i64 _ (by omega) (by simp only at hlt ⊢; omega)]
          rfl
  · exact fin rfl

end Go.Mac
