/- code.form, code.fits: what an instruction may have in its places. -/
import Derived.Test.YtondghnbecnpiaaDoorQTypes
open Go Go.Proofs Go.Mac
set_option maxRecDepth 100000
namespace Go.Mac

/-- The kinds of an op's places. -/
def formZ (op : Int) : List Int :=
  match op with
  | 1 => [1, 3, 0, 0]
  | 2 => [1, 1, 0, 0]
  | 3 => [1, 1, 3, 0]
  | 4 => [1, 1, 1, 0]
  | 5 => [1, 1, 6, 7]
  | 6 => [1, 2, 0, 0]
  | 7 => [2, 1, 5, 0]
  | 8 => [1, 2, 3, 0]
  | 9 => [1, 2, 1, 1]
  | 10 => [4, 0, 0, 0]
  | 11 => [1, 3, 4, 0]
  | 12 => [1, 1, 4, 0]
  | 13 => [1, 1, 4, 0]
  | 14 => [2, 1, 0, 0]
  | 15 => [2, 3, 5, 0]
  | 16 => [3, 1, 0, 0]
  | _ => [0, 0, 0, 0]

/-- May a number stand in a place? -/
def fitsZ (kind x cells size : Int) : Bool :=
  if kind = 0 then x == 0
  else if kind = 1 then decide (0 ≤ x ∧ x < 8)
  else if kind = 2 then decide (0 ≤ x ∧ x < cells)
  else if kind = 4 then decide (0 ≤ x ∧ x < size)
  else if kind = 5 then decide (-1 ≤ x ∧ x < 8)
  else if kind = 6 then decide (0 ≤ x ∧ x ≤ 63)
  else if kind = 7 then decide (1 ≤ x ∧ x ≤ 63)
  else true

def fo (op : Int) (k : Nat) : Int := (formZ op).getD k 0

abbrev pvF (op : Int) : AV := .p (.agg [.f (.int .i64 (fo op 0)), .f (.int .i64 (fo op 1)), .f (.int .i64 (fo op 2)), .f (.int .i64 (fo op 3))])

section
variable {K : AV → List Nat → List PO → Prop}

theorem form (op : Int) (h0 : 0 ≤ op ∧ op < 17) (h : K (pvF op) [] []) : Does Tryd.prog 68 [i64 op] [] K := by
  refine does Tryd.func68 rfl (by decide) ?_
  refine at2 (a := (0 : Int) ≤ op) (b := op < (17 : Nat)) (by omega) (by omega) ?_
  refine Exists.intro [.f (.int .i64 (fo op 0)), .f (.int .i64 (fo op 1)), .f (.int .i64 (fo op 2)), .f (.int .i64 (fo op 3))] (And.intro ?_ h)
  rw [show szOf Tryd.prog 109 = 4 from rfl]
  have : op = 0 ∨ op = 1 ∨ op = 2 ∨ op = 3 ∨ op = 4 ∨ op = 5 ∨ op = 6 ∨ op = 7 ∨ op = 8 ∨ op = 9 ∨ op = 10 ∨ op = 11 ∨ op = 12 ∨ op = 13 ∨ op = 14 ∨ op = 15 ∨ op = 16 := by omega
  rcases this with rfl | rfl | rfl | rfl | rfl | rfl | rfl | rfl | rfl | rfl | rfl | rfl | rfl | rfl | rfl | rfl | rfl <;> rfl

theorem fits (kind x cells size : Int) (h : K (bl (fitsZ kind x cells size)) [] []) : Does Tryd.prog 69 [i64 kind, i64 x, i64 cells, i64 size] [] K := by
  refine does Tryd.func69 rfl (by decide) ?_
  have fin0 : ∀ b : Bool, b = fitsZ kind x cells size → K (bl b) [] [] := fun b e => e ▸ h
  refine brc_intro (fun h0 => ?_) (fun h0 => ?_)
  · exact fin0 (x == 0) (by simp only [beq_iff_eq] at h0; simp [fitsZ, h0])
  refine brc_intro (fun h1 => ?_) (fun h1 => ?_)
  · simp only [beq_iff_eq] at h1
    refine brc_intro (fun h2 => fin0 (decide (x < 8)) ?_) (fun h2 => fin0 false ?_)
    · have := of_decide_eq_true h2; simp [fitsZ, h1]; omega
    · have := of_decide_eq_false h2; simp [fitsZ, h1]; omega
  refine brc_intro (fun h1 => ?_) (fun h2 => ?_)
  · simp only [beq_iff_eq] at h1
    refine brc_intro (fun h2 => fin0 (decide (x < cells)) ?_) (fun h2 => fin0 false ?_)
    · have := of_decide_eq_true h2; simp [fitsZ, h1]; omega
    · have := of_decide_eq_false h2; simp [fitsZ, h1]; omega
  refine brc_intro (fun h1 => ?_) (fun h3 => ?_)
  · simp only [beq_iff_eq] at h1
    refine brc_intro (fun h2 => fin0 (decide (x < size)) ?_) (fun h2 => fin0 false ?_)
    · have := of_decide_eq_true h2; simp [fitsZ, h1]; omega
    · have := of_decide_eq_false h2; simp [fitsZ, h1]; omega
  refine brc_intro (fun h1 => ?_) (fun h4 => ?_)
  · simp only [beq_iff_eq] at h1
    refine brc_intro (fun h2 => fin0 (decide (x < 8)) ?_) (fun h2 => fin0 false ?_)
    · have := of_decide_eq_true h2; simp [fitsZ, h1]; omega
    · have := of_decide_eq_false h2; simp [fitsZ, h1]; omega
  refine brc_intro (fun h1 => ?_) (fun h5 => ?_)
  · simp only [beq_iff_eq] at h1
    refine brc_intro (fun h2 => fin0 (decide (x ≤ 63)) ?_) (fun h2 => fin0 false ?_)
    · have := of_decide_eq_true h2; simp [fitsZ, h1]; omega
    · have := of_decide_eq_false h2; simp [fitsZ, h1]; omega
  refine brc_intro (fun h1 => ?_) (fun h6 => ?_)
  · simp only [beq_iff_eq] at h1
    refine brc_intro (fun h2 => fin0 (decide (x ≤ 63)) ?_) (fun h2 => fin0 false ?_)
    · have := of_decide_eq_true h2; simp [fitsZ, h1]; omega
    · have := of_decide_eq_false h2; simp [fitsZ, h1]; omega
  refine fin0 true ?_
  simp only [beq_eq_false_iff_ne, ne_eq] at h0 h1 h2 h3 h4 h5 h6
  simp [fitsZ, *]

end
end Go.Mac
