/- The judge: how many rounds. -/
import Derived.Test.YtlimhldkkbaohaaGreatDoorQJudge
open Go Go.Proofs Go.Mac
set_option maxRecDepth 100000
namespace Go.Mac

def goneStep (g : List Int) (e : EvZ) : List Int := if e.a = 2 then g.set e.t.toNat (g.getD e.t.toNat 0 + 1) else g
def anyStep (m : Int) (e : EvZ) : Int := if e.v > m then e.v else m
def allStep (m g : Int) : Int := if g < m then g else m

def goneR (n : Nat) (l : List EvZ) : List Int := l.foldl goneStep (noughts n)
def anyR (l : List EvZ) : Int := l.foldl anyStep 0
def allG (n : Nat) (l : List EvZ) : Int := (goneR n l).foldl allStep ((goneR n l).getD 0 0)

theorem take_snoc {α : Type} {l : List α} {i : Nat} {x : α} (h : l[i]? = some x) : l.take (i + 1) = l.take i ++ [x] := by rw [List.take_add_one, h]; rfl

theorem fold_take {α β : Type} {f : β → α → β} {b : β} {l : List α} {i : Nat} {x : α} (h : l[i]? = some x) : (l.take (i + 1)).foldl f b = f ((l.take i).foldl f b) x := by
  rw [take_snoc h, List.foldl_append]
  rfl

theorem goneStep_len (g : List Int) (e : EvZ) : (goneStep g e).length = g.length := by
  unfold goneStep
  split <;> simp

theorem goneR_len (n : Nat) (l : List EvZ) : (goneR n l).length = n := by
  have : ∀ (l : List EvZ) (g : List Int), (l.foldl goneStep g).length = g.length := by
    intro l
    induction l with
    | nil => exact fun g => rfl
    | cons x l ih => exact fun g => (ih _).trans (goneStep_len g x)
  rw [goneR, this, noughts, List.length_replicate]

theorem goneStep_small {b : Int} (hb : 0 ≤ b) {g : List Int} (h : smallL b g) (e : EvZ) : smallL (b + 1) (goneStep g e) := by
  have := small_getD hb h e.t.toNat
  unfold goneStep
  split
  · exact small_set h (by omega)
  · exact small_more h

theorem goneR_small (n : Nat) (l : List EvZ) : ∀ i : Nat, smallL i (goneR n (l.take i))
  | 0 => by simpa [goneR] using noughts_small n
  | i + 1 => by
    by_cases hi : i < l.length
    · unfold goneR
      rw [fold_take (List.getElem?_eq_getElem hi)]
      exact goneStep_small (by omega) (goneR_small n l i) _
    · have h := goneR_small n l i
      rw [List.take_of_length_le (by omega)] at h ⊢
      exact small_more h

/-- Of what is right all is so. -/
theorem runZ_all : ∀ (l : List EvZ) (i : Nat) (c g : List Int), runZ l i c g = none → ∀ x ∈ l, (x.a = 1 ∨ x.a = 2) ∧ 0 ≤ x.t ∧ x.t < c.length
  | [], _, _, _, _, x, hx => by simp at hx
  | e :: l, i, c, g, h, x, hx => by
    rw [runZ] at h
    split at h
    · rename_i h0
      rcases List.mem_cons.1 hx with rfl | hx
      · unfold oneZ at h0
        split at h0
        · simp at h0
        split at h0
        · simp at h0
        · omega
      · have := runZ_all l (i + 1) _ _ h x hx
        rwa [(oneZ_len e c g).1] at this
    · cases h

theorem check_all {n : Nat} {l : List EvZ} (h : checkZ n l = none) {i : Nat} {x : EvZ} (hx : l[i]? = some x) : (x.a = 1 ∨ x.a = 2) ∧ 0 ≤ x.t ∧ x.t < n := by
  have := runZ_all l 0 _ _ h x (List.mem_iff_getElem?.2 ⟨i, hx⟩)
  simpa [noughts] using this

section
variable {K : AV → List Nat → List PO → Prop}

theorem rounds {all l : List EvZ} {k n : Nat} {ro nn : Bool} {c : Option Nat} (hk : l.length = k) (hall : ∀ i, i < k → all[i]? = l[i]?) (hn : 1 ≤ n ∧ n ≤ 16) (hkb : k < 1000000)
    (h0 : checkZ n l = none → K (.tup [.c (.f (.int .i64 (allG n l))), .c (.f (.int .i64 (anyR l))), .c .niliface]) [] [.rows ro 4 (all.map rowEv)])
    (h1 : ∀ (e : Int) (i : Nat), checkZ n l = some (e, i) → K (.tup [.c (.f (.int .i64 0)), .c (.f (.int .i64 0)), .c (.iface 71 (.ptr 1 0))]) [] [.rows ro 4 (all.map rowEv), .one [.f (.int .i64 e), .f (.int .i64 i)]]) :
    Does Tryz.prog 24 [cv (.slc 0 0 k c nn), i64 n] [.rows ro 4 (all.map rowEv)] K := by
  refine does Tryz.func24 rfl (by decide) ?_
  change Does Tryz.prog 47 _ _ _
  refine check hk hall hn hkb (fun hok => ?_) fun e i he => ?_
  · have b1 : (0 : Int) ≤ (n : Int) := by omega
    have b2 : (n : Int) ≤ (n : Int) := by omega
    have b3 : ((8 : Nat) : Int) * (n : Int) ≤ 281474976710656 := by omega
    have b4 : (n : Int) ≤ 9223372036854775807 := by omega
    have hR := h0 hok
    clear h0 h1
    refine And.intro b1 (And.intro b2 (And.intro b3 (And.intro b4 ?_)))
    refine SS.loop (fun i : Nat => i ≤ k) (fun i => [(5, i64 (anyR (l.take i))), (8, cv (.slc 1 0 n none true)), (21, cv (.slc 0 0 k c nn)), (22, i64 k), (23, i64 i)]) (fun i => [.rows ro 4 (all.map rowEv), .rows false 1 ((goneR n (l.take i)).map rowZ)]) (fun i => k - i) []
      (At.mk' [5, 8, 21, 22, 23] 0 (by simp) ⟨rfl, rfl⟩ (by
        show [PO.rows ro 4 (all.map rowEv), PO.rows false 1 (List.replicate n [.int .i64 0])] = _
        rw [← noughts_rows n]
        rfl) rfl (by simp) (by simp) (by simp)) ?_
    intro i hi
    refine S_r ?_
    refine brc_intro (fun hlt => ?_) (fun hlt => ?_)
    · have hlt : i < k := by have := of_decide_eq_true hlt; omega
      obtain ⟨x, hx⟩ : ∃ x, l[i]? = some x := ⟨_, List.getElem?_eq_getElem (by omega)⟩
      have hax := (hall i hlt).trans hx
      have hxa := check_all hok hx
      have hga : goneR n (l.take (i + 1)) = goneStep (goneR n (l.take i)) x := fold_take hx
      have han : anyR (l.take (i + 1)) = anyStep (anyR (l.take i)) x := fold_take hx
      have hgl := goneR_len n (l.take i)
      have hgs := goneR_small n l i
      refine SS.inlR ?_
      refine at2 (by omega) (by omega) (rdA (rowEv x) (gev hax) ?_)
      refine brc_intro (fun h2 => ?_) (fun h2 => ?_)
      · have h2 : x.a = 2 := by simpa using h2
        rw [goneStep, if_pos h2] at hga
        generalize goneR n (l.take i) = G at *
        obtain ⟨g, hgv⟩ : ∃ g, G[x.t.toNat]? = some g := ⟨_, List.getElem?_eq_getElem (by omega)⟩
        have e2 : G.getD x.t.toNat 0 = g := by rw [List.getD_eq_getElem?_getD, hgv]; rfl
        have hgb := hgs g (List.mem_iff_getElem?.2 ⟨_, hgv⟩)
        rw [e2] at hga
        refine at2 (by omega) (by omega) (rd1 (rowZ g) (.int .i64 g) (gx hgv) rfl ?_)
        refine at2 (by omega) (by omega) (wr1 (rowZ g) (gx hgv) ?_)
        refine At.mk' [5, 8, 21, 22, 23] (i + 1) ⟨hlt, by omega⟩ ⟨?_, rfl⟩ ?_ rfl (by simp) (by simp) (by simp)
        · rw [wrap_i64 (i + 1) (by omega) (by omega), han]
          rfl
        · rw [hga, wrap_i64 (g + 1) (by omega) (by omega), Nat.zero_add x.t.toNat, List.map_set]
          rfl
      · have h2 : x.a ≠ 2 := by simpa using h2
        rw [goneStep, if_neg h2] at hga
        refine At.mk' [5, 8, 21, 22, 23] (i + 1) ⟨hlt, by omega⟩ ⟨?_, rfl⟩ ?_ rfl (by simp) (by simp) (by simp)
        · rw [wrap_i64 (i + 1) (by omega) (by omega), han]
          rfl
        · rw [hga]
          rfl
    · have hlt : ¬ (i : Int) < (k : Int) := of_decide_eq_false hlt
      have e : l.take i = l := List.take_of_length_le (by omega)
      simp only [e]
      have hgl := goneR_len n l
      unfold allG at hR
      generalize goneR n l = G at *
      obtain ⟨g, hgv⟩ : ∃ g, G[0]? = some g := ⟨_, List.getElem?_eq_getElem (by omega)⟩
      have e2 : G.getD 0 0 = g := by rw [List.getD_eq_getElem?_getD, hgv]; rfl
      rw [e2] at hR
      refine at2 (by omega) (by omega) (rd1 (rowZ g) (.int .i64 g) (by simp [hgv]) rfl ?_)
      refine SS.loop (fun j : Nat => j ≤ n) (fun j => [(4, i64 ((G.take j).foldl allStep g)), (5, i64 (anyR l)), (45, cv (.slc 1 0 n none true)), (46, i64 n), (47, i64 j)]) (fun _ => [.rows ro 4 (all.map rowEv), .rows false 1 (G.map rowZ)]) (fun j => n - j) []
        (At.mk' [4, 5, 45, 46, 47] 0 (by simp) ⟨rfl, rfl⟩ rfl rfl (by simp) (by simp) (by simp)) ?_
      intro j hj
      refine S_r ?_
      refine brc_intro (fun hlt' => ?_) (fun hlt' => ?_)
      · have hlt' : j < n := by have := of_decide_eq_true hlt'; omega
        obtain ⟨x, hx⟩ : ∃ x, G[j]? = some x := ⟨_, List.getElem?_eq_getElem (by omega)⟩
        refine at2 (by omega) (by omega) (rd1 (rowZ x) (.int .i64 x) (by simp [hx]) rfl ?_)
        refine At.mk' [4, 5, 45, 46, 47] (j + 1) ⟨hlt', by omega⟩ ⟨?_, rfl⟩ rfl rfl (by simp) (by simp) (by simp)
        rw [wrap_i64 (j + 1) (by omega) (by omega), fold_take hx]
        rfl
      · have hlt' : ¬ (j : Int) < (n : Int) := of_decide_eq_false hlt'
        have e' : G.take j = G := List.take_of_length_le (by omega)
        rw [← e'] at hR
        exact hR
  · exact h1 e i he

end
end Go.Mac
