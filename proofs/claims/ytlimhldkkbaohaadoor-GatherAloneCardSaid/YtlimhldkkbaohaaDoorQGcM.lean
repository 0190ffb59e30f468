/- Guests of a phaser, and one who closes it: from the start. -/
import Derived.Test.YtlimhldkkbaohaaDoorQGcL
import Derived.Test.YtlimhldkkbaohaaDoorQGuests
import Derived.Test.YtlimhldkkbaohaaDoorQBegins
import Derived.Test.YtlimhldkkbaohaaDoorQGathered
open Go Go.Proofs Go.Mac
set_option maxRecDepth 100000
namespace Go.Mac

theorem gath_rel (p : Nat) (c : CallZ) : gathI (p : Int) c = (bodyG c).map (relI (p : Int)) := by
  obtain ⟨w, n⟩ := c
  rw [bodyG]
  by_cases h6 : w = 6
  · subst h6
    simp [gathI, registerI, registerT, overI, relI]
  by_cases h10 : w = 10
  · subst h10
    simp [gathI, awaitI, awaitT, overI, relI, Int.add_assoc]
  by_cases h11 : w = 11
  · subst h11
    simp [gathI, closesI, closesT, overI, relI]
  by_cases h9 : w = 9
  · subst h9
    simp [gathI, arriveI, arriveT, awaitI, awaitT, overI, relI, Int.add_assoc]
  by_cases h8 : w = 8
  · subst h8
    simp [gathI, arriveI, arriveT, tellsI, overI, relI]
  · simp [gathI, h6, h10, h11, h9, h8, arriveI, arriveT, tellsI, overI, relI]

theorem gath_fold : ∀ (l : List CallZ) (out : List InsZ), l.foldl (fun out c => out ++ gathI out.length c) out = out ++ catU out.length (l.map bodyG)
  | [], out => by simp [catU]
  | c :: l, out => by
    rw [List.foldl_cons, gath_fold l, gath_rel]
    simp only [List.map_cons, catU, List.length_append, List.length_map, List.append_assoc]

theorem gathP_cat (l : List CallZ) : gathP l = catP (l.map bodyG) := by
  rw [gathP, gathU, gath_fold, catP]
  rfl

def lsC (ll : List (List CallZ)) (t : Nat) : List CallZ := ll.getD t []
theorem lsC_get {ll : List (List CallZ)} {t : Nat} (h : t < ll.length) : ll[t]? = some (lsC ll t) := by
  rw [lsC, List.getD_eq_getElem?_getD, List.getElem?_eq_getElem h]; rfl
theorem lsC_mem {ll : List (List CallZ)} {t : Nat} (h : t < ll.length) : lsC ll t ∈ ll := List.mem_of_getElem? (lsC_get h)

theorem asked_ok : (∀ c ∈ guestT ++ ownL, gFitB c.w c.n = true) ∧ ((guestT ++ ownL).all fun c => decide ((bodyG c).length ≤ 39) && (bodyG c).all fun i => okI 1 (((bodyG c).length : Int) + 1) i) = true := by constructor <;> decide

theorem asked_right {l : List CallZ} (hl : l.length ≤ 6) (hc : ∀ c ∈ l, c ∈ guestT ++ ownL) : rightZ (gathP l) 1 = true := by
  have ha := List.all_eq_true.1 asked_ok.2
  rw [gathP_cat]
  refine catP_right (by decide) (fun b hb => ?_) ?_
  · obtain ⟨c, hc', rfl⟩ := List.mem_map.1 hb
    have := ha c (hc c hc')
    rw [Bool.and_eq_true] at this
    exact List.all_eq_true.1 this.2
  · have := offB_le (n := 39) (l.map bodyG) (fun b hb => by
      obtain ⟨c, hc', rfl⟩ := List.mem_map.1 hb
      have := ha c (hc c hc')
      rw [Bool.and_eq_true] at this
      exact of_decide_eq_true this.1) (l.map bodyG).length
    rw [List.length_map] at this ⊢
    omega

theorem gc_init {ll : List (List CallZ)} {t0 : Nat} (hn : ll.length ≤ 7) (hl : ∀ l ∈ ll, l.length ≤ 6) (hc : ∀ l ∈ ll, ∀ c ∈ l, c ∈ guestT ++ ownL) (h0 : ll[t0]? = some ownL) {w : Int} (hw : RW w) : GcI 12300 ll.length t0 (lsC ll) (mz0 (ll.map gathP) [w]) := by
  have hts : ∀ t, t < ll.length → (mz0 (ll.map gathP) [w]).ts[t]? = some th0 := fun t ht => by
    show (List.replicate (ll.map _).length th0)[t]? = _
    rw [List.length_map, List.getElem?_replicate, if_pos ht]
  have ht0 := (List.getElem?_eq_some_iff.1 h0).1
  have hl0 : lsC ll t0 = ownL := Option.some.inj ((lsC_get ht0).symm.trans h0)
  refine ⟨fun _ => ⟨0, th0⟩, w, ⟨⟨mz0_wf (by simp; omega) (by simp) (fun p hp => ?_) (fun x hx => ?_), by simp [mz0], rfl, fun t ht => ?_, rfl, fun t ht => ?_⟩, by omega, fun t ht c hc' => asked_ok.1 c (hc _ (lsC_mem ht) c hc'), fun t ht => ?_, fun _ => hw, (fun s hs => by cases hs), (fun h => absurd rfl h), ?_⟩, fun s _ => rfl, ht0, hl0, ?_, fun k x h => by cases h⟩
  · obtain ⟨l, hl', rfl⟩ := List.mem_map.1 hp
    exact asked_right (hl l hl') (hc l hl')
  · obtain rfl := List.mem_singleton.1 hx
    have := hw.1
    have := hw.2.1
    omega
  · show (ll.map gathP)[t]? = _
    rw [List.getElem?_map, lsC_get ht, ← gathP_cat]; rfl
  · rw [hts t ht]; rfl
  · refine ⟨0, 0, 0, 0, 0, rfl, .inr ⟨rfl, ?_⟩⟩
    cases h : (lsC ll t)[0]? with
    | none => exact .inr ⟨by have := List.getElem?_eq_none_iff.1 h; show 0 = _; omega, rfl⟩
    | some c => exact .inl ⟨c, by first | exact h | rfl, gOk_0 ..⟩
  · have h1 : rsum ll.length (fun t => glG w (lsC ll t) ⟨0, th0⟩) ≤ ll.length * 1741 := rsum_const _ _ _ fun t ht => by
      have h1 := gl_0 w (lsC ll t) 0 th0.rg
      have h2 := hl _ (lsC_mem ht)
      show glG w (lsC ll t) ⟨0, ⟨0, th0.rg, false⟩⟩ ≤ 1741
      omega
    have h2 : ll.length * 1741 ≤ 7 * 1741 := Nat.mul_le_mul_right _ hn
    show 0 + (_ + 10 * (ll.length - 0)) ≤ 12300
    omega
  · exact ⟨(fun h => by cases h), (fun h => absurd (show 6 ≤ 0 from h) (by decide)), (fun h => by cases h), (fun h => by cases h)⟩

theorem gc_moves {ll : List (List CallZ)} {t0 : Nat} (hn : ll.length ≤ 7) (hl : ∀ l ∈ ll, l.length ≤ 6) (hc : ∀ l ∈ ll, ∀ c ∈ l, c ∈ guestT ++ ownL) (h0 : ll[t0]? = some ownL) {w : Int} (hw : RW w) (ms : List MoveZ) : GcI (12300 + 10 * ms.length) ll.length t0 (lsC ll) (movesZ (mz0 (ll.map gathP) [w]) ms) := by
  have := moves_inv (P := fun i m => GcI (12300 + 10 * i) ll.length t0 (lsC ll) m)
    (fun i m t h => (h.step t).mono (by omega)) (fun i m t h => (h.poke t).mono (by omega)) ms 0 _ (gc_init hn hl hc h0 hw)
  rw [Nat.zero_add] at this
  exact this

/-- What one needs to ask for such a machine. -/
theorem guests_made (l : List (List Int)) : (guestsZ l ++ [ownL]).length = min l.length 6 + 1 ∧ (∀ x ∈ guestsZ l ++ [ownL], x.length ≤ 6) ∧ (∀ x ∈ guestsZ l ++ [ownL], ∀ c ∈ x, c ∈ guestT ++ ownL) ∧ (guestsZ l ++ [ownL])[min l.length 6]? = some ownL := by
  have hlen : (guestsZ l).length = min l.length 6 := by rw [guestsZ, List.length_map, List.length_take]; omega
  refine ⟨by rw [List.length_append, hlen]; rfl, fun x hx => ?_, fun x hx c hc => ?_, ?_⟩
  · rcases List.mem_append.1 hx with hx | hx
    · obtain ⟨y, _, rfl⟩ := List.mem_map.1 hx
      rw [guestJ_len]; omega
    · rw [List.mem_singleton.1 hx]; decide
  · rcases List.mem_append.1 hx with hx | hx
    · obtain ⟨y, _, rfl⟩ := List.mem_map.1 hx
      obtain ⟨z, _, rfl⟩ := List.mem_map.1 hc
      exact List.mem_append_left _ (List.mem_of_getElem? (guestC_at z))
    · rw [List.mem_singleton.1 hx] at hc
      exact List.mem_append_right _ hc
  · rw [List.getElem?_append_right (by omega), hlen, Nat.sub_self]
    rfl

end Go.Mac
