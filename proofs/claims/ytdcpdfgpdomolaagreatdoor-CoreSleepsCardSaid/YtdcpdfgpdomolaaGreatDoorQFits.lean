/- Do programs fit a machine of so many cells? -/
import Derived.Test.YtdcpdfgpdomolaaGreatDoorGForm
import Derived.Test.YtdcpdfgpdomolaaGreatDoorQMachNew
open Go Go.Proofs Go.Mac
set_option maxRecDepth 100000
namespace Go.Mac

def sumL (ps : List (List InsZ)) : Nat := (ps.map List.length).sum
def fitsP (ps : List (List InsZ)) (nc : Nat) : Bool := ps.all (fun p => rightZ p nc) && decide (ps.length ≤ 16) && decide (sumL ps ≤ 600) && decide (nc ≤ 100)

theorem sumL_le (nc : Int) : ∀ (ps : List (List InsZ)), ps.all (fun p => rightZ p nc) = true → sumL ps ≤ 600 * ps.length
  | [], _ => Nat.le_refl _
  | p :: ps, h => by
    rw [List.all_cons, Bool.and_eq_true] at h
    have h1 := sumL_le nc ps h.2
    have h2 : p.length ≤ 600 := by
      have := h.1
      simp only [rightZ, Bool.and_eq_true, decide_eq_true_eq] at this
      exact this.1.1.2.2
    rw [sumL] at h1 ⊢
    rw [List.map_cons, List.sum_cons, List.length_cons]
    omega

theorem sumL_take (ps : List (List InsZ)) (i : Nat) (p : List InsZ) (h : ps[i]? = some p) : sumL (ps.take (i + 1)) = sumL (ps.take i) + p.length := by
  rw [sumL, List.take_add_one, h, List.map_append, List.sum_append, sumL]
  simp

section
variable {K : AV → List Nat → List PO → Prop}

theorem rightAny {p : List InsZ} {k : Nat} {ro nn : Bool} {c : Option Nat} (cells : Int) (hk : p.length = k)
    (h0 : rightZ p cells = true → K (cv .niliface) [] [.rows ro 5 (p.map rowIns)])
    (h1 : rightZ p cells = false → ∀ e : Int, K (cv (.iface 34 (.f (.int .i64 e)))) [] [.rows ro 5 (p.map rowIns)])
    (h2 : rightZ p cells = false → ∀ e i : Int, K (cv (.iface 97 (.ptr 1 0))) [] [.rows ro 5 (p.map rowIns), .one [.f (.int .i64 e), .f (.int .i64 i)]]) :
    Does Tryz.prog 31 [cv (.slc 0 0 k c nn), i64 cells] [.rows ro 5 (p.map rowIns)] K := by
  by_cases hkb : k < 1000000
  · exact right cells hk hkb h0 h1 h2
  refine Does.keep 1 rfl ?_
  refine does Tryz.func31 rfl (by decide) ?_
  refine SS.inlR ?_
  refine brc_intro (fun h => ?_) (fun hc0 => ?_)
  · have := of_decide_eq_true h
    exact ⟨1, [0], [.rows ro 5 (p.map rowIns)], cv (.iface 34 (.f (.int .i64 2))), rfl, rfl, by decide, by decide, rfl, rfl, rfl, rfl, rfl, h1 (by simp [rightZ]; omega) 2⟩
  refine brc_intro (fun h => ?_) (fun hc1 => ?_)
  · have := of_decide_eq_true h
    exact ⟨1, [0], [.rows ro 5 (p.map rowIns)], cv (.iface 34 (.f (.int .i64 2))), rfl, rfl, by decide, by decide, rfl, rfl, rfl, rfl, rfl, h1 (by simp [rightZ]; omega) 2⟩
  refine brc_intro (fun h => ?_) (fun hl0 => ?_)
  · have : k = 0 := by simpa using h
    omega
  refine brc_intro (fun h => ?_) (fun hl1 => ?_)
  · have := of_decide_eq_true h
    exact ⟨1, [0], [.rows ro 5 (p.map rowIns)], cv (.iface 34 (.f (.int .i64 4))), rfl, rfl, by decide, by decide, rfl, rfl, rfl, rfl, rfl, h1 (by simp [rightZ]; omega) 4⟩
  · exfalso
    have : ¬ ((k : Int) > 600) := of_decide_eq_false hl1
    omega

theorem rightRowAny {ps : List (List InsZ)} {p : List InsZ} {i : Nat} {ro : Bool} (cells : Int) (hp : (ps.map fun p => p.map rowIns)[i]? = some (p.map rowIns))
    (h0 : rightZ p cells = true → K (cv .niliface) [] [.rows2 ro 5 (ps.map fun p => p.map rowIns)])
    (h1 : rightZ p cells = false → ∀ e : Int, K (cv (.iface 34 (.f (.int .i64 e)))) [] [.rows2 ro 5 (ps.map fun p => p.map rowIns)])
    (h2 : rightZ p cells = false → ∀ e i : Int, K (cv (.iface 97 (.ptr 1 0))) [] [.rows2 ro 5 (ps.map fun p => p.map rowIns), .one [.f (.int .i64 e), .f (.int .i64 i)]]) :
    Does Tryz.prog 31 [cv (.islc 0 i 0 (p.map rowIns).length none false), i64 cells] [.rows2 ro 5 (ps.map fun p => p.map rowIns)] K := by
  refine Does.row (args := [i64 cells]) (Hl := []) (ro := ro) (sz := 5) (p.map rowIns) hp rfl ?_
  refine rightAny (p := p) (ro := true) cells (by simp) (fun h => ⟨by cases ro <;> rfl, h0 h⟩) (fun h e => ⟨by cases ro <;> rfl, h1 h e⟩) fun h e j => ⟨by cases ro <;> rfl, h2 h e j⟩

theorem fitsAll {ps : List (List InsZ)} {ws : List Int} {n nc : Nat} {ro ro2 nn nn2 : Bool} {c c2 : Option Nat} (hps : ps.length = n) (hws : ws.length = nc) (hn : n ≤ 9223372036854775807) (hnc : nc ≤ 9223372036854775807)
    (h : K (bl (fitsP ps nc)) [] [.rows2 ro 5 (ps.map fun p => p.map rowIns), .rows ro2 1 (ws.map rowU)]) :
    Does Tryz.prog 8 [cv (.slc 0 0 n c nn), cv (.slc 1 0 nc c2 nn2)] [.rows2 ro 5 (ps.map fun p => p.map rowIns), .rows ro2 1 (ws.map rowU)] K := by
  refine Does.keep 2 rfl ?_
  refine does Tryz.func8 rfl (by decide) ?_
  refine SS.loop (fun p : Nat × Int => p.1 ≤ n ∧ (ps.take p.1).all (fun p => rightZ p nc) = true ∧ (p.1 ≤ 16 → p.2 = sumL (ps.take p.1)))
    (fun p => [(0, cv (.slc 0 0 n c nn)), (1, cv (.slc 1 0 nc c2 nn2)), (4, bl false), (5, i64 p.2), (8, cv (.slc 0 0 n c nn)), (9, i64 n), (10, i64 p.1)])
    (fun _ => [.rows2 ro 5 (ps.map fun p => p.map rowIns), .rows ro2 1 (ws.map rowU)]) (fun p => n - p.1) []
    (At.mk' [0, 1, 4, 5, 8, 9, 10] (0, 0) ⟨by simp, by simp, fun _ => by simp [sumL]⟩ ⟨rfl, rfl⟩ rfl rfl (by simp) (by simp) (by simp)) ?_
  rintro ⟨i, x⟩ ⟨hi, hall, hx⟩
  change i ≤ n at hi
  change (ps.take i).all (fun p => rightZ p nc) = true at hall
  change i ≤ 16 → x = (sumL (ps.take i) : Int) at hx
  refine S_r ?_
  refine brc_intro (fun hlt => ?_) (fun hlt => ?_)
  · have hlt : i < n := by
      have := of_decide_eq_true hlt
      have : (i : Int) < (n : Int) := this
      omega
    obtain ⟨p, hp⟩ : ∃ p, ps[i]? = some p := ⟨_, List.getElem?_eq_getElem (by omega)⟩
    have hpm : (ps.map fun p => p.map rowIns)[0 + Int.toNat (i : Int)]? = some (p.map rowIns) := by simp [hp]
    have hpl : (p.map rowIns).length = p.length := by simp
    refine SS.inlR ?_
    refine at2 (a := (0 : Int) ≤ (i : Int)) (b := (i : Int) < (n : Int)) (by omega) (by omega) ?_
    refine Exists.intro (p.map rowIns) (And.intro hpm ?_)
    change Does Tryz.prog 31 [cv (.islc 0 (0 + Int.toNat (i : Int)) 0 (p.map rowIns).length none false), i64 nc] _ _
    rw [show 0 + Int.toNat (i : Int) = i from by simp]
    have hpi : (ps.map fun p => p.map rowIns)[i]? = some (p.map rowIns) := by simpa using hpm
    have hbad : rightZ p nc = false → fitsP ps nc = false := fun hr => by
      have : ps.all (fun p => rightZ p nc) = false := by
        rw [List.all_eq_false]
        exact ⟨p, List.mem_of_getElem? hp, by simp [hr]⟩
      rw [fitsP, this]; rfl
    refine Does.on 2 [0] _ _ (rightRowAny (nc : Int) hpi (fun hr => ?_) (fun hr e => ?_) fun hr e j => ?_)
    · have hall2 : (ps.take (i + 1)).all (fun p => rightZ p nc) = true := by
        rw [List.take_add_one, hp, List.all_append, hall]
        simp [hr]
      refine At.mk' [0, 1, 4, 5, 8, 9, 10] (i + 1, IntKind.i64.wrap (x + ((p.map rowIns).length : Nat))) ⟨⟨hlt, hall2, fun h16 => ?_⟩, by show n - (i + 1) < n - i; omega⟩ ⟨?_, rfl⟩ rfl rfl (by simp) (by simp) (by decide)
      · change i + 1 ≤ 16 at h16
        have h1 := sumL_le _ _ hall2
        have h2 := sumL_take ps i p hp
        rw [List.length_take] at h1
        rw [hx (by omega), hpl, wrap_i64 _ (by omega) (by omega)]
        show (sumL (ps.take i) : Int) + p.length = (sumL (ps.take (i + 1)) : Int)
        omega
      · rw [wrap_i64 ((i : Int) + 1) (by omega) (by omega)]
        rfl
    · rw [hbad hr] at h
      exact ⟨2, [0, 1], _, _, rfl, rfl, by decide, by decide, rfl, rfl, rfl, rfl, rfl, h⟩
    · rw [hbad hr] at h
      exact ⟨2, [0, 1], _, _, rfl, rfl, by decide, by decide, rfl, rfl, rfl, rfl, rfl, h⟩
  · have hlt : ¬ (i : Int) < (n : Int) := of_decide_eq_false hlt
    obtain rfl : n = i := by omega
    rw [List.take_of_length_le (by omega)] at hall hx
    refine brc_intro (fun h16 => ?_) (fun h16 => ?_)
    · have h16 : ps.length ≤ 16 := by
        have := of_decide_eq_true h16
        omega
      have hx := hx (by omega)
      refine brc_intro (fun h6 => ?_) (fun h6 => ?_)
      · have h6 : sumL ps ≤ 600 := by
          have := of_decide_eq_true h6
          have : x ≤ 600 := this
          omega
        have hq : fitsP ps nc = decide ((nc : Int) ≤ 100) := by
          rw [fitsP, hall, decide_eq_true h16, decide_eq_true h6]
          simp only [Bool.true_and]
          exact decide_eq_decide.2 (by omega)
        rw [hq] at h
        exact ⟨2, [0, 1], _, _, rfl, rfl, by decide, by decide, rfl, rfl, rfl, rfl, rfl, h⟩
      · have h6 : ¬ sumL ps ≤ 600 := by
          have := of_decide_eq_false h6
          have : ¬ x ≤ 600 := this
          omega
        have hq : fitsP ps nc = false := by simp [fitsP, h6]
        rw [hq] at h
        exact ⟨2, [0, 1], _, _, rfl, rfl, by decide, by decide, rfl, rfl, rfl, rfl, rfl, h⟩
    · have h16 : ¬ ps.length ≤ 16 := by
        have := of_decide_eq_false h16
        omega
      have hq : fitsP ps nc = false := by simp [fitsP, h16]
      rw [hq] at h
      exact ⟨2, [0, 1], _, _, rfl, rfl, by decide, by decide, rfl, rfl, rfl, rfl, rfl, h⟩

end
end Go.Mac
