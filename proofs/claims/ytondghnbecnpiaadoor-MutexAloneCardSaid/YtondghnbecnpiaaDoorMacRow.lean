/- The machine of abstract values: one of a slice's slices handed on as rows that are only read. -/
import Derived.Test.YtondghnbecnpiaaDoorMacRun
namespace Go.Mac
open Go

theorem VAs.mono {N N' : Nat} {L L' : Nat → Loc} {M : List Nat} (hN : N ≤ N') (hL : Agree N M L L') : ∀ {xs : List AV} {vs : List Value}, VAs N L xs vs → VAs N' L' (xs.map (killA M)) vs
  | [], _, h => h
  | _ :: _, _, ⟨y, ys, h1, h2, h3⟩ => ⟨y, ys, h1, h2.mono hN hL, VAs.mono hN hL h3⟩

def noRo : List PO → Bool
  | [] => true
  | .rows true _ _ :: _ => false
  | .rows2 true _ _ :: _ => false
  | .hnd _ _ _ :: _ => false
  | _ :: os => noRo os

theorem noRo_spec : ∀ {H : List PO}, noRo H = true → ∀ (j : Nat) (o : PO) (l : Loc) (b : Nat), H[j]? = some o → ¬ Ro o l b
  | [], _, j, o, l, b, hj => by simp at hj
  | x :: H, h, j, o, l, b, hj => by
    cases j with
    | zero =>
      simp at hj; subst hj
      intro hb
      cases x with
      | one _ => exact hb
      | gone => exact hb
      | hnd _ _ _ => simp [noRo] at h
      | rows ro _ _ => cases ro <;> first | exact hb | simp [noRo] at h
      | rows2 ro _ _ => cases ro <;> first | exact hb | simp [noRo] at h
    | succ j =>
      refine noRo_spec (H := H) ?_ j o l b (by simpa using hj)
      cases x with
      | one _ => exact h
      | gone => exact h
      | hnd _ _ _ => simp [noRo] at h
      | rows ro _ _ => cases ro <;> first | exact h | simp [noRo] at h
      | rows2 ro _ _ => cases ro <;> first | exact h | simp [noRo] at h

def mapKillK (args : List AV) (k : List AV → Prop) : Prop := k (args.map (killA [0]))

theorem Does.row {P : Program} {f : FuncId} {args : List AV} {Hl : List PO} {K : AV → List Nat → List PO → Prop} {ro : Bool} {sz n i : Nat} {rss : List (List (List FC))} (rs : List (List FC)) (hi : rss[i]? = some rs) (_hn : rs.length = n)
    (h : Does P f (cv (.slc 0 0 n none false) :: args.map (killA [0])) (.rows true sz rs :: Hl.map (killO [0])) fun x M H' => match H' with
      | _ :: Hl' => (ro || noRo Hl') = true ∧ K (killA [0] x) M (.rows2 ro sz rss :: Hl'.map (killO [0]))
      | _ => False) : Does P f (cv (.islc 0 i 0 n none false) :: args) (.rows2 ro sz rss :: Hl) K := by
  refine ⟨h.fn, fun B R w0 L w vs hrel hvs => ?_⟩
  obtain ⟨v, us, rfl, ⟨hlt, hh⟩, hus⟩ := hvs
  have hO := hrel.obj 0 _ rfl
  have hilt := (List.getElem?_eq_some_iff.1 hi).1
  have hlen : (PO.rows true sz rs :: Hl.map (killO [0])).length = (PO.rows2 ro sz rss :: Hl).length := by simp
  have hag : Agree (PO.rows2 ro sz rss :: Hl).length [0] L (upd L 0 ⟨(L 0).inn i, (L 0).inn⟩) := fun j _ hm => upd_ne (by simpa using hm)
  have hown0 : ∀ b, Own (.rows2 ro sz rss) (L 0) b ∨ Ro (.rows2 ro sz rss) (L 0) b → b < w.heap.size := fun b hb => by
    rcases hb with hb | hb
    · exact (hrel.own 0 _ b rfl hb).2.1
    · exact hrel.size _ (hrel.sub _ (hrel.ro 0 _ b rfl hb))
  have hrel1 : Rel (fun b => B b ∨ (Own (.rows2 ro sz rss) (L 0) b ∨ Ro (.rows2 ro sz rss) (L 0) b)) (fun b => R b ∨ (Own (.rows2 ro sz rss) (L 0) b ∨ Ro (.rows2 ro sz rss) (L 0) b)) w (upd L 0 ⟨(L 0).inn i, (L 0).inn⟩) (PO.rows true sz rs :: Hl.map (killO [0])) w := by
    refine ⟨Bel.refl _ _, fun k hk => ?_, fun j o hj => ?_, fun j o b hj hb => ?_, fun j o b hj hb => ?_, fun b hb => ?_⟩
    · rcases hk with hk | hk
      · exact hrel.size k hk
      · exact hown0 k hk
    · cases j with
      | zero =>
        simp at hj; subst hj
        obtain ⟨⟨g1, g2, g3, _, g5⟩, _⟩ := hO.2.2.2.1 i rs hi
        rw [upd_self]
        exact ⟨g1, g2, g3, fun hh => by simp at hh, g5⟩
      | succ j =>
        simp only [List.getElem?_cons_succ, List.getElem?_map, Option.map_eq_some_iff] at hj
        obtain ⟨o0, ho0, rfl⟩ := hj
        rw [upd_ne (by omega), hlen]
        exact (hrel.obj (j + 1) o0 (by simpa using ho0)).mono (Nat.le_refl _) hag fun _ _ => rfl
    · cases j with
      | zero => simp at hj; subst hj; exact hb.elim
      | succ j =>
        simp only [List.getElem?_cons_succ, List.getElem?_map, Option.map_eq_some_iff] at hj
        obtain ⟨o0, ho0, rfl⟩ := hj
        rw [upd_ne (by omega), Own_kill] at hb
        obtain ⟨g1, g2, g3⟩ := hrel.own (j + 1) o0 b (by simpa using ho0) hb
        refine ⟨fun hB => ?_, g2, fun j' o' hj' hb' => ?_⟩
        · rcases hB with hB | hB | hB
          · exact g1 hB
          · have := g3 0 _ rfl hB; omega
          · exact g1 (hrel.sub _ (hrel.ro 0 _ b rfl hB))
        · cases j' with
          | zero => simp at hj'; subst hj'; exact hb'.elim
          | succ j' =>
            simp only [List.getElem?_cons_succ, List.getElem?_map, Option.map_eq_some_iff] at hj'
            obtain ⟨o1, ho1, rfl⟩ := hj'
            rw [upd_ne (by omega), Own_kill] at hb'
            exact g3 (j' + 1) o1 (by simpa using ho1) hb'
    · cases j with
      | zero =>
        simp at hj; subst hj
        rw [upd_self] at hb
        right
        cases ro
        · exact .inl (.inr ⟨i, hilt, hb.1, hb.2⟩)
        · exact .inr (.inr ⟨i, hilt, hb.1, hb.2⟩)
      | succ j =>
        simp only [List.getElem?_cons_succ, List.getElem?_map, Option.map_eq_some_iff] at hj
        obtain ⟨o0, ho0, rfl⟩ := hj
        rw [upd_ne (by omega), Ro_kill] at hb
        exact .inl (hrel.ro (j + 1) o0 b (by simpa using ho0) hb)
    · rcases hb with hb | hb
      · exact .inl (hrel.sub b hb)
      · exact .inr hb
  refine (h.run _ _ w _ w (v :: us) hrel1 ⟨v, us, rfl, ⟨by simp, by rw [upd_self]; exact hh⟩, by rw [hlen]; exact VAs.mono (Nat.le_refl _) hag hus⟩).mono ?_
  rintro e w' ⟨u, he, L2, x, M, H', k1, k2, k3, k4, k5⟩
  cases H' with
  | nil => simp at k2
  | cons o' Hl' =>
  obtain ⟨hro, k5⟩ := k5
  have hag2 : Agree (o' :: Hl').length [0] L2 (upd L2 0 (L 0)) := fun j _ hm => upd_ne (by simpa using hm)
  have hag3 : Agree (PO.rows2 ro sz rss :: Hl).length M L (upd L2 0 (L 0)) := fun j hj hm => by
    by_cases h0 : j = 0
    · subst h0; rw [upd_self]
    · rw [upd_ne h0, k1 j (by rw [hlen]; exact hj) hm, upd_ne h0]
  have hlen2 : (PO.rows2 ro sz rss :: Hl'.map (killO [0])).length = (o' :: Hl').length := by simp
  refine ⟨u, he, upd L2 0 (L 0), killA [0] x, M, _, hag3, by rw [hlen] at k2; rw [hlen2]; exact k2, by rw [hlen2]; exact k3.mono (Nat.le_refl _) hag2, ?_, k5⟩
  have hbel : Bel B w w' := ⟨k4.below.os, k4.below.tape, k4.below.output, k4.below.size, fun k hk => k4.below.block k (.inl hk)⟩
  refine ⟨hrel.below.trans hbel, hrel.start, fun j o hj => ?_, fun j o b hj hb => ?_, fun j o b hj hb => ?_, hrel.sub⟩
  · cases j with
    | zero =>
      simp at hj; subst hj
      rw [upd_self]
      exact (hrel.obj 0 _ rfl).mono (M := M) (by rw [hlen] at k2; rw [hlen2]; exact k2) hag3 fun b hb => k4.below.block b (.inr hb)
    | succ j =>
      simp only [List.getElem?_cons_succ, List.getElem?_map, Option.map_eq_some_iff] at hj
      obtain ⟨o0, ho0, rfl⟩ := hj
      rw [upd_ne (by omega), hlen2]
      exact (k4.obj (j + 1) o0 (by simpa using ho0)).mono (Nat.le_refl _) hag2 fun _ _ => rfl
  · cases j with
    | zero =>
      simp at hj; subst hj
      rw [upd_self] at hb
      obtain ⟨g1, g2, _⟩ := hrel.own 0 _ b rfl hb
      refine ⟨g1, Nat.lt_of_lt_of_le g2 hbel.size, fun j' o1 hj' hb' => ?_⟩
      cases j' with
      | zero => rfl
      | succ j' =>
        simp only [List.getElem?_cons_succ, List.getElem?_map, Option.map_eq_some_iff] at hj'
        obtain ⟨o0, ho0, rfl⟩ := hj'
        rw [upd_ne (by omega), Own_kill] at hb'
        exact absurd (.inr (.inl hb)) (k4.own (j' + 1) o0 b (by simpa using ho0) hb').1
    | succ j =>
      simp only [List.getElem?_cons_succ, List.getElem?_map, Option.map_eq_some_iff] at hj
      obtain ⟨o0, ho0, rfl⟩ := hj
      rw [upd_ne (by omega), Own_kill] at hb
      obtain ⟨g1, g2, g3⟩ := k4.own (j + 1) o0 b (by simpa using ho0) hb
      refine ⟨fun hB => g1 (.inl hB), g2, fun j' o1 hj' hb' => ?_⟩
      cases j' with
      | zero =>
        simp at hj'; subst hj'
        rw [upd_self] at hb'
        exact absurd (.inr (.inl hb')) g1
      | succ j' =>
        simp only [List.getElem?_cons_succ, List.getElem?_map, Option.map_eq_some_iff] at hj'
        obtain ⟨o2, ho2, rfl⟩ := hj'
        rw [upd_ne (by omega), Own_kill] at hb'
        exact g3 (j' + 1) o2 (by simpa using ho2) hb'
  · cases j with
    | zero =>
      simp at hj; subst hj
      rw [upd_self] at hb
      exact hrel.ro 0 _ b rfl hb
    | succ j =>
      simp only [List.getElem?_cons_succ, List.getElem?_map, Option.map_eq_some_iff] at hj
      obtain ⟨o0, ho0, rfl⟩ := hj
      rw [upd_ne (by omega), Ro_kill] at hb
      cases ro with
      | false =>
        simp only [Bool.false_or] at hro
        exact absurd hb (noRo_spec hro j o0 _ b ho0)
      | true =>
        rcases k4.ro (j + 1) o0 b (by simpa using ho0) hb with hb | hb | hb
        · exact hb
        · exact hb.elim
        · exact hrel.ro 0 _ b rfl hb

end Go.Mac
