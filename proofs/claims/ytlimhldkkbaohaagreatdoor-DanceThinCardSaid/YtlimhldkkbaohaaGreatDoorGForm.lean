/- Texts that belong together; the first of them: code.form, code.fits: what an instruction may have in its places. -/
import Derived.Test.YtlimhldkkbaohaaGreatDoorGBase

/- code.form, code.fits: what an instruction may have in its places. -/
section
open Go Go.Proofs Go.Mac
set_option maxRecDepth 100000
namespace Go.Mac

/-- The kinds of an op's places. -/
def formZ (op : Int) : List Int :=
  match op with
  | 1 => [1, 3, 0, 0]
  | 2 => [1, 1, 0, 0]
  | 3 => [1, 1, 3, 0]
  | 4 => [1, 1, 1, 0]
  | 5 => [1, 1, 6, 7]
  | 6 => [1, 2, 0, 0]
  | 7 => [2, 1, 5, 0]
  | 8 => [1, 2, 3, 0]
  | 9 => [1, 2, 1, 1]
  | 10 => [4, 0, 0, 0]
  | 11 => [1, 3, 4, 0]
  | 12 => [1, 1, 4, 0]
  | 13 => [1, 1, 4, 0]
  | 14 => [2, 1, 0, 0]
  | 15 => [2, 3, 5, 0]
  | 16 => [3, 1, 0, 0]
  | _ => [0, 0, 0, 0]

/-- May a number stand in a place? -/
def fitsZ (kind x cells size : Int) : Bool :=
  if kind = 0 then x == 0
  else if kind = 1 then decide (0 ≤ x ∧ x < 8)
  else if kind = 2 then decide (0 ≤ x ∧ x < cells)
  else if kind = 4 then decide (0 ≤ x ∧ x < size)
  else if kind = 5 then decide (-1 ≤ x ∧ x < 8)
  else if kind = 6 then decide (0 ≤ x ∧ x ≤ 63)
  else if kind = 7 then decide (1 ≤ x ∧ x ≤ 63)
  else true

def fo (op : Int) (k : Nat) : Int := (formZ op).getD k 0

abbrev pvF (op : Int) : AV := .p (.agg [.f (.int .i64 (fo op 0)), .f (.int .i64 (fo op 1)), .f (.int .i64 (fo op 2)), .f (.int .i64 (fo op 3))])

section
variable {K : AV → List Nat → List PO → Prop}

theorem form (op : Int) (h0 : 0 ≤ op ∧ op < 17) (h : K (pvF op) [] []) : Does Tryz.prog 30 [i64 op] [] K := by
  refine does Tryz.func30 rfl (by decide) ?_
  refine at2 (a := (0 : Int) ≤ op) (b := op < (17 : Nat)) (by omega) (by omega) ?_
  refine Exists.intro [.f (.int .i64 (fo op 0)), .f (.int .i64 (fo op 1)), .f (.int .i64 (fo op 2)), .f (.int .i64 (fo op 3))] (And.intro ?_ h)
  rw [show szOf Tryz.prog 74 = 4 from rfl]
  have : op = 0 ∨ op = 1 ∨ op = 2 ∨ op = 3 ∨ op = 4 ∨ op = 5 ∨ op = 6 ∨ op = 7 ∨ op = 8 ∨ op = 9 ∨ op = 10 ∨ op = 11 ∨ op = 12 ∨ op = 13 ∨ op = 14 ∨ op = 15 ∨ op = 16 := by omega
  rcases this with rfl | rfl | rfl | rfl | rfl | rfl | rfl | rfl | rfl | rfl | rfl | rfl | rfl | rfl | rfl | rfl | rfl <;> rfl

theorem fits (kind x cells size : Int) (h : K (bl (fitsZ kind x cells size)) [] []) : Does Tryz.prog 31 [i64 kind, i64 x, i64 cells, i64 size] [] K := by
  refine does Tryz.func31 rfl (by decide) ?_
  have fin0 : ∀ b : Bool, b = fitsZ kind x cells size → K (bl b) [] [] := fun b e => e ▸ h
  refine brc_intro (fun h0 => ?_) (fun h0 => ?_)
  · exact fin0 (x == 0) (by simp only [beq_iff_eq] at h0; simp [fitsZ, h0])
  refine brc_intro (fun h1 => ?_) (fun h1 => ?_)
  · simp only [beq_iff_eq] at h1
    refine brc_intro (fun h2 => fin0 (decide (x < 8)) ?_) (fun h2 => fin0 false ?_)
    · have := of_decide_eq_true h2; simp [fitsZ, h1]; omega
    · have := of_decide_eq_false h2; simp [fitsZ, h1]; omega
  refine brc_intro (fun h1 => ?_) (fun h2 => ?_)
  · simp only [beq_iff_eq] at h1
    refine brc_intro (fun h2 => fin0 (decide (x < cells)) ?_) (fun h2 => fin0 false ?_)
    · have := of_decide_eq_true h2; simp [fitsZ, h1]; omega
    · have := of_decide_eq_false h2; simp [fitsZ, h1]; omega
  refine brc_intro (fun h1 => ?_) (fun h3 => ?_)
  · simp only [beq_iff_eq] at h1
    refine brc_intro (fun h2 => fin0 (decide (x < size)) ?_) (fun h2 => fin0 false ?_)
    · have := of_decide_eq_true h2; simp [fitsZ, h1]; omega
    · have := of_decide_eq_false h2; simp [fitsZ, h1]; omega
  refine brc_intro (fun h1 => ?_) (fun h4 => ?_)
  · simp only [beq_iff_eq] at h1
    refine brc_intro (fun h2 => fin0 (decide (x < 8)) ?_) (fun h2 => fin0 false ?_)
    · have := of_decide_eq_true h2; simp [fitsZ, h1]; omega
    · have := of_decide_eq_false h2; simp [fitsZ, h1]; omega
  refine brc_intro (fun h1 => ?_) (fun h5 => ?_)
  · simp only [beq_iff_eq] at h1
    refine brc_intro (fun h2 => fin0 (decide (x ≤ 63)) ?_) (fun h2 => fin0 false ?_)
    · have := of_decide_eq_true h2; simp [fitsZ, h1]; omega
    · have := of_decide_eq_false h2; simp [fitsZ, h1]; omega
  refine brc_intro (fun h1 => ?_) (fun h6 => ?_)
  · simp only [beq_iff_eq] at h1
    refine brc_intro (fun h2 => fin0 (decide (x ≤ 63)) ?_) (fun h2 => fin0 false ?_)
    · have := of_decide_eq_true h2; simp [fitsZ, h1]; omega
    · have := of_decide_eq_false h2; simp [fitsZ, h1]; omega
  refine fin0 true ?_
  simp only [beq_eq_false_iff_ne, ne_eq] at h0 h1 h2 h3 h4 h5 h6
  simp [fitsZ, *]

end
end Go.Mac
end

/- code.Right: may a program be? -/
section
open Go Go.Proofs Go.Mac
set_option maxRecDepth 100000
namespace Go.Mac

def argZ (i : InsZ) (k : Nat) : Int := [i.a, i.b, i.c, i.d].getD k 0

/-- May an instruction be? -/
def okI (cells size : Int) (i : InsZ) : Bool :=
  decide (0 ≤ i.op ∧ i.op < 17) && fitsZ (fo i.op 0) i.a cells size && fitsZ (fo i.op 1) i.b cells size && fitsZ (fo i.op 2) i.c cells size && fitsZ (fo i.op 3) i.d cells size

def lastOp (p : List InsZ) : Int := (p.getLast?.map (·.op)).getD 99

/-- May a program be? -/
def rightZ (p : List InsZ) (cells : Int) : Bool :=
  decide (0 ≤ cells ∧ cells ≤ 300) && decide (1 ≤ p.length ∧ p.length ≤ 600) && p.all (okI cells p.length) && (lastOp p == 0 || lastOp p == 10)

theorem okI_args {cells size : Int} {i : InsZ} (h : 0 ≤ i.op ∧ i.op < 17) (hk : ∀ k, k < 4 → fitsZ (fo i.op k) (argZ i k) cells size = true) : okI cells size i = true := by
  have h0 := hk 0 (by omega)
  have h1 := hk 1 (by omega)
  have h2 := hk 2 (by omega)
  have h3 := hk 3 (by omega)
  simp only [argZ, List.getD_cons_zero, List.getD_cons_succ] at h0 h1 h2 h3
  simp [okI, h, h0, h1, h2, h3]

theorem okI_not {cells size : Int} {i : InsZ} {k : Nat} (hk : k < 4) (h : fitsZ (fo i.op k) (argZ i k) cells size = false) : okI cells size i = false := by
  have : k = 0 ∨ k = 1 ∨ k = 2 ∨ k = 3 := by omega
  rcases this with rfl | rfl | rfl | rfl <;> simp only [argZ, List.getD_cons_zero, List.getD_cons_succ] at h <;> simp [okI, h]

theorem right_not {p : List InsZ} {cells : Int} {j : Nat} {x : InsZ} (hx : p[j]? = some x) (h : okI cells p.length x = false) : rightZ p cells = false := by
  have : p.all (okI cells p.length) = false := by
    rw [List.all_eq_false]
    exact ⟨x, List.mem_of_getElem? hx, by simp [h]⟩
  simp [rightZ, this]

theorem notT {b : Bool} (h : (!b) = true) : b = false := by cases b <;> simp_all
theorem notF {b : Bool} (h : (!b) = false) : b = true := by cases b <;> simp_all

theorem gIns {l : List InsZ} {i : Nat} {x : InsZ} (h : l[i]? = some x) : (l.map rowIns)[0 + Int.toNat (i : Int)]? = some (rowIns x) := by simp [h]

section
variable {K : AV → List Nat → List PO → Prop}

theorem right {p : List InsZ} {k : Nat} {ro nn : Bool} {c : Option Nat} (cells : Int) (hk : p.length = k) (hkb : k < 1000000)
    (h0 : rightZ p cells = true → K (cv .niliface) [] [.rows ro 5 (p.map rowIns)])
    (h1 : rightZ p cells = false → ∀ e : Int, K (cv (.iface 70 (.f (.int .i64 e)))) [] [.rows ro 5 (p.map rowIns)])
    (h2 : rightZ p cells = false → ∀ e i : Int, K (cv (.iface 71 (.ptr 1 0))) [] [.rows ro 5 (p.map rowIns), .one [.f (.int .i64 e), .f (.int .i64 i)]]) :
    Does Tryz.prog 11 [cv (.slc 0 0 k c nn), i64 cells] [.rows ro 5 (p.map rowIns)] K := by
  refine Does.keep 1 rfl ?_
  refine does Tryz.func11 rfl (by decide) ?_
  refine SS.inlR ?_
  refine brc_intro (fun h => ?_) (fun hc0 => ?_)
  · have := of_decide_eq_true h
    exact ⟨1, [0], [.rows ro 5 (p.map rowIns)], cv (.iface 70 (.f (.int .i64 2))), rfl, rfl, by decide, by decide, rfl, rfl, rfl, rfl, rfl, h1 (by simp [rightZ]; omega) 2⟩
  have hc0 := of_decide_eq_false hc0
  refine brc_intro (fun h => ?_) (fun hc1 => ?_)
  · have := of_decide_eq_true h
    exact ⟨1, [0], [.rows ro 5 (p.map rowIns)], cv (.iface 70 (.f (.int .i64 2))), rfl, rfl, by decide, by decide, rfl, rfl, rfl, rfl, rfl, h1 (by simp [rightZ]; omega) 2⟩
  have hc1 := of_decide_eq_false hc1
  refine brc_intro (fun h => ?_) (fun hl0 => ?_)
  · have : k = 0 := by simpa using h
    exact ⟨1, [0], [.rows ro 5 (p.map rowIns)], cv (.iface 70 (.f (.int .i64 8))), rfl, rfl, by decide, by decide, rfl, rfl, rfl, rfl, rfl, h1 (by simp [rightZ]; omega) 8⟩
  have hl0 : k ≠ 0 := by simpa using hl0
  refine brc_intro (fun h => ?_) (fun hl1 => ?_)
  · have := of_decide_eq_true h
    exact ⟨1, [0], [.rows ro 5 (p.map rowIns)], cv (.iface 70 (.f (.int .i64 4))), rfl, rfl, by decide, by decide, rfl, rfl, rfl, rfl, rfl, h1 (by simp [rightZ]; omega) 4⟩
  have hl1 := of_decide_eq_false hl1
  refine SS.loop (fun i : Nat => i ≤ k ∧ ∀ (j : Nat) (x : InsZ), j < i → p[j]? = some x → okI cells k x = true) (fun i => [(0, cv (.slc 0 0 k c nn)), (1, i64 cells), (29, cv (.slc 0 0 k c nn)), (30, i64 k), (31, i64 i)]) (fun _ => [.rows ro 5 (p.map rowIns)]) (fun i => k - i) []
    (At.mk' [0, 1, 29, 30, 31] 0 ⟨by simp, fun j x hj => absurd hj (by simp)⟩ ⟨rfl, rfl⟩ rfl rfl (by simp) (by simp) (by simp)) ?_
  rintro i ⟨hi, hok⟩
  change i ≤ k at hi
  refine S_r ?_
  refine brc_intro (fun hlt => ?_) (fun hlt => ?_)
  · have hlt : i < k := by
      have := of_decide_eq_true hlt
      have : (i : Int) < (k : Int) := this
      omega
    obtain ⟨x, hx⟩ : ∃ x, p[i]? = some x := ⟨_, List.getElem?_eq_getElem (by omega)⟩
    refine SS.inlR ?_
    refine at2 (a := (0 : Int) ≤ (i : Int)) (b := (i : Int) < (k : Int)) (by omega) (by omega) (rdA (rowIns x) (gIns hx) ?_)
    refine brc_intro (fun h => ?_) (fun ho => ?_)
    · have := of_decide_eq_true h
      exact ⟨3, [0, 2], [.rows ro 5 (p.map rowIns), .one [.f (.int .i64 1), .f (.int .i64 i)]], cv (.iface 71 (.ptr 1 0)), rfl, rfl, by decide, by decide, rfl, rfl, rfl, rfl, rfl, h2 (right_not hx (by simp [okI]; omega)) 1 i⟩
    have ho := of_decide_eq_false ho
    refine brc_intro (fun h => ?_) (fun ho2 => ?_)
    · have := of_decide_eq_true h
      exact ⟨3, [0, 2], [.rows ro 5 (p.map rowIns), .one [.f (.int .i64 1), .f (.int .i64 i)]], cv (.iface 71 (.ptr 1 0)), rfl, rfl, by decide, by decide, rfl, rfl, rfl, rfl, rfl, h2 (right_not hx (by simp [okI]; omega)) 1 i⟩
    have ho2 := of_decide_eq_false ho2
    change Does Tryz.prog 30 _ _ _
    refine Does.alone 2 (form x.op (by omega) ?_)
    refine SS.loop (fun m : Nat => m ≤ 4 ∧ ∀ j, j < m → fitsZ (fo x.op j) (argZ x j) cells k = true)
      (fun m => [(0, cv (.slc 0 0 k c nn)), (1, i64 cells), (29, cv (.slc 0 0 k c nn)), (30, i64 k), (31, i64 i), (5, i64 i), (7, cv (.ptr 2 0)), (59, .p (.agg [.f (.int .i64 x.a), .f (.int .i64 x.b), .f (.int .i64 x.c), .f (.int .i64 x.d)])), (60, i64 m)])
      (fun _ => [.rows ro 5 (p.map rowIns), .one [.f (.int .i64 x.op), .f (.int .i64 x.a), .f (.int .i64 x.b), .f (.int .i64 x.c), .f (.int .i64 x.d)], .one [.f (.int .i64 (fo x.op 0)), .f (.int .i64 (fo x.op 1)), .f (.int .i64 (fo x.op 2)), .f (.int .i64 (fo x.op 3))]]) (fun m => 4 - m) []
      (At.mk' [0, 1, 29, 30, 31, 5, 7, 59, 60] 0 ⟨by simp, fun j hj => absurd hj (by simp)⟩ ⟨rfl, rfl⟩ rfl rfl (by simp) (by simp) (by simp)) ?_
    rintro m ⟨hm, hfit⟩
    change m ≤ 4 at hm
    refine S_r ?_
    refine brc_intro (fun hlt2 => ?_) (fun hlt2 => ?_)
    · have hlt2 : m < 4 := by
        have := of_decide_eq_true hlt2
        have : (m : Int) < 4 := this
        omega
      have key : ∀ b : Bool, fitsZ (fo x.op m) (argZ x m) cells k = b → (b = true → ∀ j, j < m + 1 → fitsZ (fo x.op j) (argZ x j) cells k = true) ∧ (b = false → rightZ p cells = false) := fun b hb => ⟨fun e j hj => by
        subst e
        rcases Nat.lt_succ_iff_lt_or_eq.1 hj with h | rfl
        · exact hfit j h
        · exact hb, fun e => by
        subst e
        exact right_not hx (okI_not hlt2 (by rw [hk]; exact hb))⟩
      have hm4 : m = 0 ∨ m = 1 ∨ m = 2 ∨ m = 3 := by omega
      refine SS.inlR ?_
      refine at2 (a := (0 : Int) ≤ (m : Int)) (b := (m : Int) < (4 : Nat)) (by omega) (by omega) ?_
      refine Exists.intro (.f (.int .i64 (argZ x m))) (And.intro (by rcases hm4 with rfl | rfl | rfl | rfl <;> rfl) ?_)
      rcases hm4 with rfl | rfl | rfl | rfl
      all_goals
        refine at2 (by decide) (by decide) ?_
        change Does Tryz.prog 31 _ _ _
        refine Does.alone 3 (fits _ _ _ _ ?_)
        obtain ⟨key1, key2⟩ := key _ rfl
        refine brc_intro (fun h => ?_) (fun h => ?_)
        · have h' := notT h
          exact ⟨4, [0, 3], [.rows ro 5 (p.map rowIns), .one [.f (.int .i64 2), .f (.int .i64 i)]], cv (.iface 71 (.ptr 1 0)), rfl, rfl, by decide, by decide, rfl, rfl, rfl, rfl, rfl, h2 (key2 h') 2 i⟩
        · have h' := notF h
          refine At.mk' [0, 1, 29, 30, 31, 5, 7, 59, 60] _ ⟨⟨hlt2, key1 h'⟩, by decide⟩ ⟨rfl, rfl⟩ rfl rfl (by simp) (by simp) (by simp)
    · have hlt2 : ¬ (m : Int) < 4 := of_decide_eq_false hlt2
      obtain rfl : m = 4 := by omega
      refine At.mk' [0, 1, 29, 30, 31] (i + 1) ⟨⟨hlt, fun j y hj hy => ?_⟩, by omega⟩ ⟨?_, rfl⟩ rfl rfl (by simp) (by simp) (by simp)
      · rcases Nat.lt_succ_iff_lt_or_eq.1 hj with h | rfl
        · exact hok j y h hy
        · rw [hx] at hy; cases hy
          exact okI_args (by omega) hfit
      · rw [wrap_i64 (i + 1) (by omega) (by omega)]
        rfl
  · have hlt : ¬ (i : Int) < (k : Int) := of_decide_eq_false hlt
    obtain rfl : k = i := by omega
    obtain ⟨x, hx⟩ : ∃ x, p[k - 1]? = some x := ⟨_, List.getElem?_eq_getElem (by omega)⟩
    have hlast : lastOp p = x.op := by
      rw [lastOp, List.getLast?_eq_getElem?, hk, hx]
      rfl
    have e0 : IntKind.i64.wrap ((k : Int) - 1) = ((k - 1 : Nat) : Int) := by rw [wrap_i64 _ (by omega) (by omega)]; omega
    have hall : p.all (okI cells p.length) = true := by
      rw [List.all_eq_true]
      intro y hy
      obtain ⟨j, hj⟩ := List.mem_iff_getElem?.1 hy
      rw [hk]
      exact hok j y (by have := (List.getElem?_eq_some_iff.1 hj).1; omega) hj
    refine at2 (a := (0 : Int) ≤ IntKind.i64.wrap ((k : Int) - 1)) (b := IntKind.i64.wrap ((k : Int) - 1) < (k : Int)) (by rw [e0]; omega) (by rw [e0]; omega) (rd1 (rowIns x) (.int .i64 x.op) (by rw [e0]; exact gIns hx) rfl ?_)
    have key : x.op = 0 ∨ x.op = 10 → rightZ p cells = true := fun h => by
      simp only [rightZ, hall, hlast, Bool.and_true, Bool.and_eq_true, decide_eq_true_eq, Bool.or_eq_true, beq_iff_eq]
      exact ⟨⟨by omega, by omega⟩, h⟩
    have key2 : x.op ≠ 0 → x.op ≠ 10 → rightZ p cells = false := fun h h' => by
      simp [rightZ, hlast, h, h']
    refine brc_intro (fun h => ?_) (fun h => ?_)
    · have h := (bne_iff_ne).1 h
      refine brc_intro (fun h' => ?_) (fun h' => ?_)
      · have h' := (bne_iff_ne).1 h'
        exact ⟨2, [0, 1], [.rows ro 5 (p.map rowIns), .one [.f (.int .i64 7), .f (.int .i64 (IntKind.i64.wrap ((k : Int) - 1)))]], cv (.iface 71 (.ptr 1 0)), rfl, rfl, by decide, by decide, rfl, rfl, rfl, rfl, rfl, h2 (key2 h h') 7 _⟩
      · have h' := (bne_eq_false_iff_eq).1 h'
        exact ⟨1, [0], [.rows ro 5 (p.map rowIns)], cv .niliface, rfl, rfl, by decide, by decide, rfl, rfl, rfl, rfl, rfl, h0 (key (.inr h'))⟩
    · have h := (bne_eq_false_iff_eq).1 h
      exact ⟨1, [0], [.rows ro 5 (p.map rowIns)], cv .niliface, rfl, rfl, by decide, by decide, rfl, rfl, rfl, rfl, rfl, h0 (key (.inl h))⟩

theorem rightRow {ps : List (List InsZ)} {p : List InsZ} {i : Nat} {ro : Bool} (cells : Int) (hp : (ps.map fun p => p.map rowIns)[i]? = some (p.map rowIns)) (hkb : p.length < 1000000)
    (h0 : rightZ p cells = true → K (cv .niliface) [] [.rows2 ro 5 (ps.map fun p => p.map rowIns)])
    (h1 : rightZ p cells = false → ∀ e : Int, K (cv (.iface 70 (.f (.int .i64 e)))) [] [.rows2 ro 5 (ps.map fun p => p.map rowIns)])
    (h2 : rightZ p cells = false → ∀ e i : Int, K (cv (.iface 71 (.ptr 1 0))) [] [.rows2 ro 5 (ps.map fun p => p.map rowIns), .one [.f (.int .i64 e), .f (.int .i64 i)]]) :
    Does Tryz.prog 11 [cv (.islc 0 i 0 (p.map rowIns).length none false), i64 cells] [.rows2 ro 5 (ps.map fun p => p.map rowIns)] K := by
  refine Does.row (args := [i64 cells]) (Hl := []) (ro := ro) (sz := 5) (p.map rowIns) hp rfl ?_
  refine right (p := p) (ro := true) cells (by simp) (by simpa using hkb) (fun h => ⟨by cases ro <;> rfl, h0 h⟩) (fun h e => ⟨by cases ro <;> rfl, h1 h e⟩) fun h e j => ⟨by cases ro <;> rfl, h2 h e j⟩

end
end Go.Mac
end
