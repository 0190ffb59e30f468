/- The machine of threads: many steps. -/
import Derived.Test.YtondghnbecnpiaaDoorQMachGet
import Derived.Test.YtondghnbecnpiaaDoorQMachWF
open Go Go.Proofs Go.Mac
set_option maxRecDepth 100000
namespace Go.Mac

def runS (p : Nat × MZ) (t : Int) : Nat × MZ := (p.1 + (if (stepZ p.2 t).1 = 0 ∨ p.2.k < (stepZ p.2 t).2.k then 1 else 0), (stepZ p.2 t).2)
/-- Threads go on as they are picked: how many did an instruction, and the machine behind it. -/
def runM (m : MZ) (l : List Int) : Nat × MZ := l.foldl runS (0, m)

theorem runM_take (m : MZ) (l : List Int) (i : Nat) (x : Int) (h : l[i]? = some x) : runM m (l.take (i + 1)) = runS (runM m (l.take i)) x := by
  rw [runM, List.take_add_one, h, List.foldl_append]
  rfl

theorem runM_wf {m : MZ} (hw : WF m) (l : List Int) : WF (runM m l).2 := by
  have : ∀ (l : List Int) (p : Nat × MZ), WF p.2 → WF (l.foldl runS p).2 := by
    intro l
    induction l with
    | nil => exact fun p h => h
    | cons x l ih => exact fun p h => ih _ (h.step x)
  exact this l (0, m) hw

theorem runM_le (m : MZ) (l : List Int) : (runM m l).1 ≤ l.length := by
  have : ∀ (l : List Int) (p : Nat × MZ), (l.foldl runS p).1 ≤ p.1 + l.length := by
    intro l
    induction l with
    | nil => exact fun p => Nat.le_refl _
    | cons x l ih =>
      intro p
      have := ih (runS p x)
      have h2 : (runS p x).1 ≤ p.1 + 1 := by
        rw [runS]; dsimp only; split <;> omega
      rw [List.foldl_cons, List.length_cons]
      omega
  have := this l (0, m)
  rw [runM]
  simpa using this

section
variable {K : AV → List Nat → List PO → Prop} {m : MZ} {v : VZ}

theorem stepZ_k (m : MZ) (t : Int) : (stepZ m t).2.k = m.k ∨ (stepZ m t).2.k = m.k + 1 := by
  unfold stepZ
  repeat (split; · exact .inl rfl)
  rw [goZ, doZ]
  split
  · exact .inr rfl
  · split
    · rename_i m' hf
      right
      have : ∀ (m m' : MZ) (t : Nat) (x : ThZ) (i : InsZ), farZ m t x i = some m' → m'.k = m.k := by
        intro m m' t x i hf
        unfold farZ at hf
        repeat' (split at hf)
        all_goals first | (obtain rfl := Option.some.inj hf; first | rfl | (split <;> rfl)) | cases hf
      rw [this _ _ _ _ _ hf]
      rfl
    · exact .inr rfl

theorem coreRun {l : List Int} {n : Nat} {ro nn : Bool} {c : Option Nat} (hw : WF m) (hv : okV v) (hl : l.length = n) (hn : n < 1000000)
    (h : ∀ v', okV v' → K (i64 (runM m l).1) [6, 7, 8] (machH (runM m l).2 v' ++ [.rows ro 1 (l.map rowZ)])) :
    Does Tryd.prog 48 [cv (.ptr 0 0), cv (.slc 9 0 n c nn)] (machH m v ++ [.rows ro 1 (l.map rowZ)]) K := by
  refine does Tryd.func48 rfl (by decide) ?_
  refine SS.loop (fun p : Nat × VZ => p.1 ≤ n ∧ okV p.2) (fun p => [(0, cv (.ptr 0 0)), (5, i64 (runM m (l.take p.1)).1), (9, cv (.slc 9 0 n c nn)), (10, i64 n), (11, i64 p.1)]) (fun p => machH (runM m (l.take p.1)).2 p.2 ++ [.rows ro 1 (l.map rowZ)]) (fun p => n - p.1) [6, 7, 8]
    (At.mk' [0, 5, 9, 10, 11] (0, v) ⟨by simp, hv⟩ ⟨rfl, rfl⟩ rfl rfl (by simp) (by simp) (by simp)) ?_
  rintro ⟨i, v1⟩ ⟨hi, hv1⟩
  change i ≤ n at hi
  have hw1 := runM_wf hw (l.take i)
  have hle : (runM m (l.take i)).1 ≤ i := Nat.le_trans (runM_le m (l.take i)) (by simp; omega)
  refine S_r ?_
  refine brc_intro (fun hlt => ?_) (fun hlt => ?_)
  · have hlt : i < n := by
      have := of_decide_eq_true hlt
      have : (i : Int) < (n : Int) := this
      omega
    obtain ⟨x, hx⟩ : ∃ x, l[i]? = some x := ⟨_, List.getElem?_eq_getElem (by omega)⟩
    have ht := runM_take m l i x hx
    generalize hm1 : runM m (l.take i) = r at *
    obtain ⟨n1, m1⟩ := r
    have hk := stepZ_k m1 x
    change n1 ≤ i at hle
    refine SS.inlR ?_
    refine at2 (a := (0 : Int) ≤ (i : Int)) (b := (i : Int) < (n : Int)) (by omega) (by omega) (rd1 (rowZ x) (.int .i64 x) (by simp [hx]) rfl ?_)
    change Does Tryd.prog 20 _ _ _
    refine Does.on 10 [0, 1, 2, 3, 4, 5, 6, 7, 8] _ _ (coreStep (m := m1) (v := v1) hw1 hv1 x (fun h0 v' hv' => ?_) fun h0 v' hv' => ?_)
    · refine At.mk' [0, 5, 9, 10, 11] (i + 1, v') ⟨⟨by show i + 1 ≤ n; omega, hv'⟩, by show n - (i + 1) < n - i; omega⟩ ⟨?_, rfl⟩ ?_ rfl (by simp) (by simp) (by decide)
      · rw [ht, runS, if_pos (.inl h0), wrap_i64 (i + 1) (by omega) (by omega), wrap_i64 (n1 + 1) (by omega) (by omega)]
        rfl
      · rw [ht]
        rfl
    · refine brc_intro (fun hgt => ?_) (fun hgt => ?_)
      · refine At.mk' [0, 5, 9, 10, 11] (i + 1, v') ⟨⟨by show i + 1 ≤ n; omega, hv'⟩, by show n - (i + 1) < n - i; omega⟩ ⟨?_, rfl⟩ ?_ rfl (by simp) (by simp) (by decide)
        · rw [ht, runS, if_pos (.inr (by have h9 : ((stepZ m1 x).2.k : Int) > (m1.k : Int) := of_decide_eq_true hgt; show m1.k < (stepZ m1 x).2.k; omega)), wrap_i64 (i + 1) (by omega) (by omega), wrap_i64 (n1 + 1) (by omega) (by omega)]
          rfl
        · rw [ht]
          rfl
      · refine At.mk' [0, 5, 9, 10, 11] (i + 1, v') ⟨⟨by show i + 1 ≤ n; omega, hv'⟩, by show n - (i + 1) < n - i; omega⟩ ⟨?_, rfl⟩ ?_ rfl (by simp) (by simp) (by decide)
        · rw [ht, runS, if_neg (by
            have h9 : ¬ ((stepZ m1 x).2.k : Int) > (m1.k : Int) := of_decide_eq_false hgt
            rintro (h | h)
            · exact h0 h
            · have h8 : m1.k < (stepZ m1 x).2.k := h
              omega), wrap_i64 (i + 1) (by omega) (by omega)]
          rfl
        · rw [ht]
          rfl
  · have hlt : ¬ (i : Int) < (n : Int) := of_decide_eq_false hlt
    obtain rfl : i = n := by omega
    rw [List.take_of_length_le (by omega)]
    exact h v1 hv1

end
end Go.Mac
