/- Threads at a latch: what each was told. -/
import Derived.Test.YtnkmddcadkcdcaaDoorQLatE
import Derived.Test.YtnkmddcadkcdcaaDoorQWay
open Go Go.Proofs Go.Mac
set_option maxRecDepth 100000
namespace Go.Mac

def effW1 : Eff → EffW
  | .no => .no
  | .act o x y => .act o 0 x y
  | .sleep => .sleep 0
  | .wake n => .wake 0 n
  | .say a x => .say a x

/-- One cell, or some. -/
theorem nextW_one {i : InsZ} {x y : ThZ} {v v' : Int} {e : Eff} (hi : oneC i = true) (h : nextZ i x v = (y, v', e)) : nextW i x [v] = (y, [v'], effW1 e) := by
  have hi := of_decide_eq_true hi
  rw [nextZ] at h
  rw [nextW]
  cases hloc : localZ { x with pc := x.pc + 1 } i with
  | some x' =>
    rw [hloc] at h
    cases h
    rfl
  | none =>
    rw [hloc] at h
    dsimp only at h ⊢
    obtain ⟨op, a, b, c, d⟩ := i
    dsimp only at hi h ⊢
    rcases hi with rfl | rfl | rfl | rfl | rfl | rfl | ⟨rfl, g⟩ | ⟨rfl | rfl | rfl, g⟩ | ⟨rfl | rfl | rfl, rfl⟩ | ⟨rfl, rfl⟩ | rfl | ⟨rfl | rfl, rfl, rfl⟩ <;> try (cases hloc; done)
    · rw [if_pos rfl] at h ⊢; cases h; rfl
    · rw [if_neg (by decide), if_pos rfl] at h ⊢; cases h; rfl
    · rw [if_neg (by decide), if_neg (by decide), if_pos rfl] at h ⊢
      by_cases hq : v = rgZ x.rg c
      · rw [if_pos hq] at h
        cases h
        rw [if_pos (show rgZ [v] 0 = rgZ x.rg c from hq)]
        rfl
      · rw [if_neg hq] at h
        cases h
        rw [if_neg (show ¬ rgZ [v] 0 = rgZ x.rg c from hq)]
        rfl
    · rw [if_neg (by decide), if_neg (by decide), if_neg (by decide), if_pos rfl] at h ⊢
      by_cases hq : v = rgZ x.rg b
      · rw [if_pos hq] at h
        cases h
        rw [if_pos (show rgZ [v] 0 = rgZ x.rg b from hq)]
        rfl
      · rw [if_neg hq] at h
        cases h
        rw [if_neg (show ¬ rgZ [v] 0 = rgZ x.rg b from hq)]
        rfl
    · rw [if_neg (by decide), if_neg (by decide), if_neg (by decide), if_neg (by decide), if_pos rfl] at h ⊢; cases h; rfl
    · rw [if_neg (by decide), if_neg (by decide), if_neg (by decide), if_neg (by decide), if_neg (by decide), if_neg (by decide)] at h ⊢; cases h; rfl
    · rw [if_neg (by decide), if_neg (by decide), if_neg (by decide), if_neg (by decide), if_neg (by decide), if_pos rfl] at h ⊢; cases h; rfl

theorem oneC_cells {i : InsZ} {x : ThZ} (hi : oneC i = true) : cellsC 1 x i := by
  have hi := of_decide_eq_true hi
  unfold cellsC
  rcases hi with h | h | h | h | h | h | h | h | ⟨h, h2⟩ | ⟨h, h2⟩ | h | ⟨h, h1, h2⟩
  · exact .inl h
  · exact .inr (.inl h)
  · exact .inr (.inr (.inl h))
  · exact .inr (.inr (.inr (.inl h)))
  · exact .inr (.inr (.inr (.inr (.inl h))))
  · exact .inr (.inr (.inr (.inr (.inr (.inl h)))))
  · exact .inr (.inr (.inr (.inr (.inr (.inr (.inl h))))))
  · exact .inr (.inr (.inr (.inr (.inr (.inr (.inr (.inl h)))))))
  · exact .inr (.inr (.inr (.inr (.inr (.inr (.inr (.inr (.inl ⟨h, by omega⟩))))))))
  · exact .inr (.inr (.inr (.inr (.inr (.inr (.inr (.inr (.inr (.inl ⟨h, by omega⟩)))))))))
  · exact .inr (.inr (.inr (.inr (.inr (.inr (.inr (.inr (.inr (.inr (.inl h))))))))))
  · refine .inr (.inr (.inr (.inr (.inr (.inr (.inr (.inr (.inr (.inr (.inr ⟨h, 0, ?_, by omega⟩))))))))))
    rw [offZ, if_pos (by omega), h1]
    rfl

theorem Sys.w {n : Nat} {bs : Nat → List (List InsZ)} {gs : Nat → GZ} {v : Int} {m : MZ} (h : Sys n bs gs v m) : SysW n 1 bs gs [v] m :=
  ⟨h.wf, h.ln, by rw [← h.wf.nc, h.ws]; rfl, h.ps, h.ws, h.ts⟩

section
variable {B D n : Nat} {first : Int} {ls : Nat → List Bool}

/-- What holds, and how often each was told something. -/
def LatU (B D n : Nat) (first : Int) (ls : Nat → List Bool) (m : MZ) : Prop := ∃ gs v, LatJ B D n first ls gs v m ∧ ToldW n gs m.el

theorem latB_say (b : Bool) : sayB (latB b) = true := by cases b <;> decide

theorem LatU.step {m : MZ} (h : LatU B D n first ls m) (t : Int) : LatU B D n first ls (stepZ m t).2 := by
  obtain ⟨gs, v, h, hT⟩ := h
  rcases step_or h.sys.wf t with e | ⟨s, rfl, hc, hk⟩
  · rw [e]; exact ⟨gs, v, h, hT⟩
  · obtain ⟨v', i, y', e, hi, ho, hn, hJ⟩ := lat_step h hc hk
    exact ⟨_, _, hJ, hT.step h.sys.w (fun b hb => by obtain ⟨c, _, rfl⟩ := List.mem_map.1 hb; exact latB_say c) hc hk hi (oneC_cells ho) (nextW_one ho hn)⟩

theorem LatU.poke {m : MZ} (h : LatU B D n first ls m) (t : Int) : LatU (B + 4) D n first ls (pokeZ m t) := by
  obtain ⟨gs, v, h, hT⟩ := h
  exact ⟨gs, v, h.poke t, hT⟩

theorem LatU.mono {B' : Nat} {m : MZ} (h : LatU B D n first ls m) (hb : B ≤ B') : LatU B' D n first ls m := by
  obtain ⟨gs, v, h, hT⟩ := h
  exact ⟨gs, v, h.mono hb, hT⟩

end

theorem latU_moves {ll : List (List Bool)} (hn : ll.length ≤ 9) (hl : ∀ l ∈ ll, l.length ≤ 12) {f : Nat} (hf : f ≤ 100) (ms : List MoveZ) :
    LatU (9225 + 4 * ms.length) (rsum ll.length fun t => cnt true (lsF ll t) 0) ll.length f (lsF ll) (movesZ (latM ll f) ms) := by
  have := moves_inv (P := fun i m => LatU (9225 + 4 * i) (rsum ll.length fun t => cnt true (lsF ll t) 0) ll.length f (lsF ll) m)
    (fun i m t h => (h.step t).mono (by omega)) (fun i m t h => (h.poke t).mono (by omega)) ms 0 _ ⟨_, _, lat_init hn hl hf, fun s _ => rfl⟩
  rw [Nat.zero_add] at this
  exact this

theorem dnG_le (l : List Bool) (g : GZ) : dnG l g ≤ cnt true l 0 := by
  have h1 : ∀ j, cnt true l (j + 1) + dnN l[j]? g.y.pc (rgZ g.y.rg 3) ≤ cnt true l j := fun j => by
    cases h : l[j]? with
    | none =>
      have := cnt_end (b := true) (l := l) (j := j + 1) (by have := List.getElem?_eq_none_iff.1 h; omega)
      show _ + 0 ≤ _
      omega
    | some b =>
      have := cnt_at (b := true) h
      rw [this]
      cases b
      · show _ + 0 ≤ _; omega
      · show _ + (if _ then 1 else 0) ≤ _
        split <;> simp
  have h2 : ∀ j, cnt true l j ≤ cnt true l 0 := fun j => by
    rw [cnt, cnt]
    exact List.Sublist.count_le _ (by rw [List.drop_zero]; exact List.drop_sublist _ _)
  exact Nat.le_trans (h1 g.j) (h2 g.j)

/-- What LatchWaits asks. -/
theorem LatU.says {B n : Nat} {f : Nat} {ls : Nat → List Bool} {m : MZ} (h : LatU B (rsum n fun t => cnt true (ls t) 0) n f ls m) : ∃ v : Int, m.ws = [v] ∧ 0 ≤ v ∧ v ≤ f ∧ ∀ t, t < n → ∀ k, k < (ansT t m.el).length → ∃ b, (ls t)[k]? = some b ∧ (b = false → v = 0) := by
  obtain ⟨gs, v, h, hT⟩ := h
  have h1 := h.hi
  have h2 := h.v0
  have h3 : rsum n (fun t => dnG (ls t) (gs t)) ≤ rsum n (fun t => cnt true (ls t) 0) := rsum_le fun s _ => dnG_le _ _
  refine ⟨v, h.sys.ws, h2.1, ?_, fun t ht k hk => ?_⟩
  · by_cases hv : v = 0
    · omega
    · have := h1 hv; omega
  · rw [hT t ht] at hk
    obtain ⟨r1, r2, r3, _, haw, hcase⟩ := h.th t ht
    have hj : (gs t).j ≤ (ls t).length := by
      rcases hcase with hc | ⟨_, ⟨b, hb, _⟩ | hc⟩
      · omega
      · have := (List.getElem?_eq_some_iff.1 hb).1; omega
      · omega
    obtain ⟨b, hb⟩ : ∃ b, (ls t)[k]? = some b := ⟨_, List.getElem?_eq_getElem (by omega)⟩
    refine ⟨b, hb, fun hbf => Classical.byContradiction fun hne => ?_⟩
    subst hbf
    exact haw hne k hk hb

end Go.Mac
