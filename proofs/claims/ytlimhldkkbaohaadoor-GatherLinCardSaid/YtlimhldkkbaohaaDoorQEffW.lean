/- lin.effects, walked. -/
import Derived.Test.YtlimhldkkbaohaaDoorGLinA
import Derived.Test.YtlimhldkkbaohaaDoorQGather
open Go Go.Proofs Go.Mac
set_option maxRecDepth 100000
namespace Go.Mac

abbrev efCh : EfS → AV
  | .s0 => cv .nilslc
  | .s1 _ => cv .nilslc
  | .s2 _ => cv (.slc 2 0 1 none true)
  | .s3 _ _ => cv (.slc 2 0 1 none true)

abbrev efLa : EfS → AV
  | .s0 => cv .nilslc
  | .s1 _ => cv (.slc 2 0 1 none true)
  | .s2 _ => cv (.slc 2 0 1 none true)
  | .s3 _ _ => cv (.slc 3 0 1 none true)

abbrev efH : EfS → List PO
  | .s0 => []
  | .s1 v => [.rows false 1 [rowZ v]]
  | .s2 v => [.rows false 1 [rowZ v]]
  | .s3 c v => [.rows false 1 [rowZ c], .rows false 1 [rowZ v]]

section
variable {K : AV → List Nat → List PO → Prop}

set_option maxHeartbeats 4000000 in
theorem effects {acts : List ActZ} {n : Nat} {ro nn : Bool} (t k w cn : Int) (frm to : Int) (done : Bool) (hn : acts.length = n) (hnb : n ≤ 1000000)
    (hnil : effZ t k w acts frm to done = [] → K (cv .nilslc) [] [.rows ro 6 (acts.map rowAct)])
    (hone : ∀ x, effZ t k w acts frm to done = [x] → K (cv (.slc 1 0 1 none true)) [] [.rows ro 6 (acts.map rowAct), .rows false 4 [rowPt x]])
    (htwo : ∀ x y, effZ t k w acts frm to done = [x, y] → K (cv (.slc 1 0 2 none true)) [] [.rows ro 6 (acts.map rowAct), .rows false 4 [rowPt x, rowPt y]]) :
    Does Tryd.prog 85 [i64 t, i64 k, .p (callG w cn), cv (.slc 0 0 n none nn), i64 frm, i64 to, bl done] [.rows ro 6 (acts.map rowAct)] K := by
  refine Does.keep 1 rfl ?_
  refine does Tryd.func85 rfl (by decide) ?_
  refine SS.loopR (fun s : Nat × EfS => s.1 ≤ n ∧ s.2 = efRun t frm to done (acts.take s.1))
    (fun s => [(0, i64 t), (1, i64 k), (4, i64 frm), (5, i64 to), (6, bl done), (9, cv (.ptr 1 0)), (15, efCh s.2), (16, efLa s.2), (21, cv (.slc 0 0 n none nn)), (22, i64 n), (23, i64 s.1)])
    (fun s => [.rows ro 6 (acts.map rowAct), .one [.f (.int .i64 w), .f (.int .i64 cn)]] ++ efH s.2) (fun s => n - s.1) []
    (At.mk' [0, 1, 4, 5, 6, 9, 15, 16, 21, 22, 23] (0, .s0) ⟨Nat.zero_le _, rfl⟩ ⟨rfl, rfl⟩ rfl rfl (by simp) (by simp) (by simp)) ?_
  rintro ⟨i, s⟩ ⟨hi, hs⟩
  dsimp only at hi hs
  have wr : IntKind.i64.wrap ((i : Int) + 1) = ((i + 1 : Nat) : Int) ∨ n ≤ i := by
    by_cases h : i < n
    · exact .inl (wrap_i64 _ (by omega) (by omega))
    · exact .inr (by omega)
  cases s with
  | s0 =>
    refine S_r ?_
    refine brc_intro (fun hlt => ?_) (fun hlt => ?_)
    · have hlt : i < n := by
        have := of_decide_eq_true hlt
        have : (i : Int) < (n : Int) := this
        omega
      have wr : IntKind.i64.wrap ((i : Int) + 1) = ((i + 1 : Nat) : Int) := by omega
      obtain ⟨x, hx⟩ : ∃ x, acts[i]? = some x := ⟨_, List.getElem?_eq_getElem (by omega)⟩
      have hxa : (acts.map rowAct)[0 + Int.toNat (i : Int)]? = some (rowAct x) := by rw [Nat.zero_add, Int.toNat_natCast, List.getElem?_map, hx]; rfl
      have hs1 := efRun_take (t := t) (frm := frm) (to := to) (done := done) hx
      rw [← hs] at hs1
      have hs1n : hitB t frm to done x = false → .s0 = efRun t frm to done (acts.take (i + 1)) := fun h => by rw [hs1, h]; rfl
      have hs1y : hitB t frm to done x = true → efRun t frm to done (acts.take (i + 1)) = efStep .s0 x := fun h => by rw [hs1, h]; rfl
      refine SS.inlR ?_
      refine at2 (a := (0 : Int) ≤ (i : Int)) (b := (i : Int) < (n : Int)) (by omega) (by omega) (rdA (rowAct x) hxa ?_)
      refine brc_intro (fun q1 => ?_) (fun q1 => ?_)
      · have q1 : (x.t == t) = false := by
          have q1 : (x.t != t) = true := q1
          rw [bne, Bool.not_eq_true'] at q1
          exact q1
        refine AtR.mk' [0, 1] 3 (i + 1, _) ⟨⟨hlt, hs1n (by rw [hitB, q1]; rfl)⟩, by dsimp only; omega⟩ rfl ⟨rfl, rfl, rfl, rfl, rfl, rfl, rfl, rfl, rfl, rfl, congrArg (fun z : Int => (i64 z : AV)) wr, trivial⟩ rfl (by decide) (by decide) rfl rfl rfl rfl (by simp)
      have q1 : (x.t == t) = true := by
        have q1 : (x.t != t) = false := q1
        rw [bne, Bool.not_eq_false'] at q1
        exact q1
      refine brc_intro (fun q2 => ?_) (fun q2 => ?_)
      · have q2 : (x.c == 0) = false := by
          have q2 : (x.c != 0) = true := q2
          rw [bne, Bool.not_eq_true'] at q2
          exact q2
        refine AtR.mk' [0, 1] 3 (i + 1, _) ⟨⟨hlt, hs1n (by rw [hitB, q1, q2]; rfl)⟩, by dsimp only; omega⟩ rfl ⟨rfl, rfl, rfl, rfl, rfl, rfl, rfl, rfl, rfl, rfl, congrArg (fun z : Int => (i64 z : AV)) wr, trivial⟩ rfl (by decide) (by decide) rfl rfl rfl rfl (by simp)
      have q2 : (x.c == 0) = true := by
        have q2 : (x.c != 0) = false := q2
        rw [bne, Bool.not_eq_false'] at q2
        exact q2
      refine brc_intro (fun q3 => ?_) (fun q3 => ?_)
      · have q3 : decide (frm < x.w) = false := by
          have q3 := of_decide_eq_true q3
          have q3 : x.w ≤ frm := q3
          exact decide_eq_false (by omega)
        refine AtR.mk' [0, 1] 3 (i + 1, _) ⟨⟨hlt, hs1n (by rw [hitB, q1, q2, q3]; rfl)⟩, by dsimp only; omega⟩ rfl ⟨rfl, rfl, rfl, rfl, rfl, rfl, rfl, rfl, rfl, rfl, congrArg (fun z : Int => (i64 z : AV)) wr, trivial⟩ rfl (by decide) (by decide) rfl rfl rfl rfl (by simp)
      have q3 : decide (frm < x.w) = true := by
        have q3 := of_decide_eq_false q3
        have q3 : ¬ x.w ≤ frm := q3
        exact decide_eq_true (by omega)
      refine brc_intro (fun q4 => ?_) (fun q4 => ?_)
      · have q4 : done = true := q4
        refine brc_intro (fun q5 => ?_) (fun q5 => ?_)
        · have q5 : decide (x.w ≥ to) = true := q5
          refine AtR.mk' [0, 1] 3 (i + 1, _) ⟨⟨hlt, hs1n (by rw [hitB, q1, q2, q3, q4, q5]; rfl)⟩, by dsimp only; omega⟩ rfl ⟨rfl, rfl, rfl, rfl, rfl, rfl, rfl, rfl, rfl, rfl, congrArg (fun z : Int => (i64 z : AV)) wr, trivial⟩ rfl (by decide) (by decide) rfl rfl rfl rfl (by simp)
        · have q5 : decide (x.w ≥ to) = false := q5
          have hs2 := hs1y (by rw [hitB, q1, q2, q3, q4, q5]; rfl)
          refine brc_intro (fun h9 => ?_) (fun h9 => ?_)
          · have h9 : x.o = 9 := by simpa using h9
            refine brc_intro (fun hne => ?_) (fun hne => ?_)
            · have hne : x.x ≠ x.y := by
                have hne : (x.x != x.y) = true := hne
                simpa using hne
              refine AtR.mk' [0, 1, 3] 4 (i + 1, .s2 x.w) ⟨⟨hlt, by rw [hs2, efStep, if_pos ⟨h9, hne⟩]⟩, by dsimp only; omega⟩ rfl ⟨rfl, rfl, rfl, rfl, rfl, rfl, rfl, rfl, rfl, rfl, congrArg (fun z : Int => (i64 z : AV)) wr, trivial⟩ rfl (by decide) (by decide) rfl rfl rfl rfl (by simp)
            · have hne : x.x = x.y := by
                have hne : (x.x != x.y) = false := hne
                simpa using hne
              refine AtR.mk' [0, 1, 3] 4 (i + 1, .s1 x.w) ⟨⟨hlt, by rw [hs2, efStep, if_neg fun h => h.2 hne]⟩, by dsimp only; omega⟩ rfl ⟨rfl, rfl, rfl, rfl, rfl, rfl, rfl, rfl, rfl, rfl, congrArg (fun z : Int => (i64 z : AV)) wr, trivial⟩ rfl (by decide) (by decide) rfl rfl rfl rfl (by simp)
          · have h9 : x.o ≠ 9 := by simpa using h9
            refine AtR.mk' [0, 1, 3] 4 (i + 1, .s1 x.w) ⟨⟨hlt, by rw [hs2, efStep, if_neg fun h => h9 h.1]⟩, by dsimp only; omega⟩ rfl ⟨rfl, rfl, rfl, rfl, rfl, rfl, rfl, rfl, rfl, rfl, congrArg (fun z : Int => (i64 z : AV)) wr, trivial⟩ rfl (by decide) (by decide) rfl rfl rfl rfl (by simp)
      · have q4 : done = false := q4
        have hs2 := hs1y (by rw [hitB, q1, q2, q3, q4]; rfl)
        refine brc_intro (fun h9 => ?_) (fun h9 => ?_)
        · have h9 : x.o = 9 := by simpa using h9
          refine brc_intro (fun hne => ?_) (fun hne => ?_)
          · have hne : x.x ≠ x.y := by
              have hne : (x.x != x.y) = true := hne
              simpa using hne
            refine AtR.mk' [0, 1, 3] 4 (i + 1, .s2 x.w) ⟨⟨hlt, by rw [hs2, efStep, if_pos ⟨h9, hne⟩]⟩, by dsimp only; omega⟩ rfl ⟨rfl, rfl, rfl, rfl, rfl, rfl, rfl, rfl, rfl, rfl, congrArg (fun z : Int => (i64 z : AV)) wr, trivial⟩ rfl (by decide) (by decide) rfl rfl rfl rfl (by simp)
          · have hne : x.x = x.y := by
              have hne : (x.x != x.y) = false := hne
              simpa using hne
            refine AtR.mk' [0, 1, 3] 4 (i + 1, .s1 x.w) ⟨⟨hlt, by rw [hs2, efStep, if_neg fun h => h.2 hne]⟩, by dsimp only; omega⟩ rfl ⟨rfl, rfl, rfl, rfl, rfl, rfl, rfl, rfl, rfl, rfl, congrArg (fun z : Int => (i64 z : AV)) wr, trivial⟩ rfl (by decide) (by decide) rfl rfl rfl rfl (by simp)
        · have h9 : x.o ≠ 9 := by simpa using h9
          refine AtR.mk' [0, 1, 3] 4 (i + 1, .s1 x.w) ⟨⟨hlt, by rw [hs2, efStep, if_neg fun h => h9 h.1]⟩, by dsimp only; omega⟩ rfl ⟨rfl, rfl, rfl, rfl, rfl, rfl, rfl, rfl, rfl, rfl, congrArg (fun z : Int => (i64 z : AV)) wr, trivial⟩ rfl (by decide) (by decide) rfl rfl rfl rfl (by simp)
    · have hlt : ¬ i < n := by
        have := of_decide_eq_false hlt
        have : ¬ (i : Int) < (n : Int) := this
        omega
      obtain rfl : i = n := by omega
      rw [List.take_of_length_le (by omega)] at hs
      have he : effZ t k w acts frm to done = efPts t k w done (efRun t frm to done acts) := rfl
      rw [← hs] at he
      refine SS.inlR ?_
      refine brc_intro (fun _ => ?_) (fun _ => ?_)
      · exact ⟨1, [0], _, _, rfl, rfl, by decide, by decide, rfl, rfl, rfl, rfl, rfl, hnil he⟩
      · exact ⟨1, [0], _, _, rfl, rfl, by decide, by decide, rfl, rfl, rfl, rfl, rfl, hnil he⟩
  | s1 v =>
    refine S_r ?_
    refine brc_intro (fun hlt => ?_) (fun hlt => ?_)
    · have hlt : i < n := by
        have := of_decide_eq_true hlt
        have : (i : Int) < (n : Int) := this
        omega
      have wr : IntKind.i64.wrap ((i : Int) + 1) = ((i + 1 : Nat) : Int) := by omega
      obtain ⟨x, hx⟩ : ∃ x, acts[i]? = some x := ⟨_, List.getElem?_eq_getElem (by omega)⟩
      have hxa : (acts.map rowAct)[0 + Int.toNat (i : Int)]? = some (rowAct x) := by rw [Nat.zero_add, Int.toNat_natCast, List.getElem?_map, hx]; rfl
      have hs1 := efRun_take (t := t) (frm := frm) (to := to) (done := done) hx
      rw [← hs] at hs1
      have hs1n : hitB t frm to done x = false → (.s1 v) = efRun t frm to done (acts.take (i + 1)) := fun h => by rw [hs1, h]; rfl
      have hs1y : hitB t frm to done x = true → efRun t frm to done (acts.take (i + 1)) = efStep (.s1 v) x := fun h => by rw [hs1, h]; rfl
      refine SS.inlR ?_
      refine at2 (a := (0 : Int) ≤ (i : Int)) (b := (i : Int) < (n : Int)) (by omega) (by omega) (rdA (rowAct x) hxa ?_)
      refine brc_intro (fun q1 => ?_) (fun q1 => ?_)
      · have q1 : (x.t == t) = false := by
          have q1 : (x.t != t) = true := q1
          rw [bne, Bool.not_eq_true'] at q1
          exact q1
        refine AtR.mk' [0, 1, 2] 4 (i + 1, _) ⟨⟨hlt, hs1n (by rw [hitB, q1]; rfl)⟩, by dsimp only; omega⟩ rfl ⟨rfl, rfl, rfl, rfl, rfl, rfl, rfl, rfl, rfl, rfl, congrArg (fun z : Int => (i64 z : AV)) wr, trivial⟩ rfl (by decide) (by decide) rfl rfl rfl rfl (by simp)
      have q1 : (x.t == t) = true := by
        have q1 : (x.t != t) = false := q1
        rw [bne, Bool.not_eq_false'] at q1
        exact q1
      refine brc_intro (fun q2 => ?_) (fun q2 => ?_)
      · have q2 : (x.c == 0) = false := by
          have q2 : (x.c != 0) = true := q2
          rw [bne, Bool.not_eq_true'] at q2
          exact q2
        refine AtR.mk' [0, 1, 2] 4 (i + 1, _) ⟨⟨hlt, hs1n (by rw [hitB, q1, q2]; rfl)⟩, by dsimp only; omega⟩ rfl ⟨rfl, rfl, rfl, rfl, rfl, rfl, rfl, rfl, rfl, rfl, congrArg (fun z : Int => (i64 z : AV)) wr, trivial⟩ rfl (by decide) (by decide) rfl rfl rfl rfl (by simp)
      have q2 : (x.c == 0) = true := by
        have q2 : (x.c != 0) = false := q2
        rw [bne, Bool.not_eq_false'] at q2
        exact q2
      refine brc_intro (fun q3 => ?_) (fun q3 => ?_)
      · have q3 : decide (frm < x.w) = false := by
          have q3 := of_decide_eq_true q3
          have q3 : x.w ≤ frm := q3
          exact decide_eq_false (by omega)
        refine AtR.mk' [0, 1, 2] 4 (i + 1, _) ⟨⟨hlt, hs1n (by rw [hitB, q1, q2, q3]; rfl)⟩, by dsimp only; omega⟩ rfl ⟨rfl, rfl, rfl, rfl, rfl, rfl, rfl, rfl, rfl, rfl, congrArg (fun z : Int => (i64 z : AV)) wr, trivial⟩ rfl (by decide) (by decide) rfl rfl rfl rfl (by simp)
      have q3 : decide (frm < x.w) = true := by
        have q3 := of_decide_eq_false q3
        have q3 : ¬ x.w ≤ frm := q3
        exact decide_eq_true (by omega)
      refine brc_intro (fun q4 => ?_) (fun q4 => ?_)
      · have q4 : done = true := q4
        refine brc_intro (fun q5 => ?_) (fun q5 => ?_)
        · have q5 : decide (x.w ≥ to) = true := q5
          refine AtR.mk' [0, 1, 2] 4 (i + 1, _) ⟨⟨hlt, hs1n (by rw [hitB, q1, q2, q3, q4, q5]; rfl)⟩, by dsimp only; omega⟩ rfl ⟨rfl, rfl, rfl, rfl, rfl, rfl, rfl, rfl, rfl, rfl, congrArg (fun z : Int => (i64 z : AV)) wr, trivial⟩ rfl (by decide) (by decide) rfl rfl rfl rfl (by simp)
        · have q5 : decide (x.w ≥ to) = false := q5
          have hs2 := hs1y (by rw [hitB, q1, q2, q3, q4, q5]; rfl)
          refine brc_intro (fun h9 => ?_) (fun h9 => ?_)
          · have h9 : x.o = 9 := by simpa using h9
            refine brc_intro (fun hne => ?_) (fun hne => ?_)
            · have hne : x.x ≠ x.y := by
                have hne : (x.x != x.y) = true := hne
                simpa using hne
              refine AtR.mk' [0, 1, 4] 5 (i + 1, .s2 x.w) ⟨⟨hlt, by rw [hs2, efStep, if_pos ⟨h9, hne⟩]⟩, by dsimp only; omega⟩ rfl ⟨rfl, rfl, rfl, rfl, rfl, rfl, rfl, rfl, rfl, rfl, congrArg (fun z : Int => (i64 z : AV)) wr, trivial⟩ rfl (by decide) (by decide) rfl rfl rfl rfl (by simp)
            · have hne : x.x = x.y := by
                have hne : (x.x != x.y) = false := hne
                simpa using hne
              refine AtR.mk' [0, 1, 4] 5 (i + 1, .s1 x.w) ⟨⟨hlt, by rw [hs2, efStep, if_neg fun h => h.2 hne]⟩, by dsimp only; omega⟩ rfl ⟨rfl, rfl, rfl, rfl, rfl, rfl, rfl, rfl, rfl, rfl, congrArg (fun z : Int => (i64 z : AV)) wr, trivial⟩ rfl (by decide) (by decide) rfl rfl rfl rfl (by simp)
          · have h9 : x.o ≠ 9 := by simpa using h9
            refine AtR.mk' [0, 1, 4] 5 (i + 1, .s1 x.w) ⟨⟨hlt, by rw [hs2, efStep, if_neg fun h => h9 h.1]⟩, by dsimp only; omega⟩ rfl ⟨rfl, rfl, rfl, rfl, rfl, rfl, rfl, rfl, rfl, rfl, congrArg (fun z : Int => (i64 z : AV)) wr, trivial⟩ rfl (by decide) (by decide) rfl rfl rfl rfl (by simp)
      · have q4 : done = false := q4
        have hs2 := hs1y (by rw [hitB, q1, q2, q3, q4]; rfl)
        refine brc_intro (fun h9 => ?_) (fun h9 => ?_)
        · have h9 : x.o = 9 := by simpa using h9
          refine brc_intro (fun hne => ?_) (fun hne => ?_)
          · have hne : x.x ≠ x.y := by
              have hne : (x.x != x.y) = true := hne
              simpa using hne
            refine AtR.mk' [0, 1, 4] 5 (i + 1, .s2 x.w) ⟨⟨hlt, by rw [hs2, efStep, if_pos ⟨h9, hne⟩]⟩, by dsimp only; omega⟩ rfl ⟨rfl, rfl, rfl, rfl, rfl, rfl, rfl, rfl, rfl, rfl, congrArg (fun z : Int => (i64 z : AV)) wr, trivial⟩ rfl (by decide) (by decide) rfl rfl rfl rfl (by simp)
          · have hne : x.x = x.y := by
              have hne : (x.x != x.y) = false := hne
              simpa using hne
            refine AtR.mk' [0, 1, 4] 5 (i + 1, .s1 x.w) ⟨⟨hlt, by rw [hs2, efStep, if_neg fun h => h.2 hne]⟩, by dsimp only; omega⟩ rfl ⟨rfl, rfl, rfl, rfl, rfl, rfl, rfl, rfl, rfl, rfl, congrArg (fun z : Int => (i64 z : AV)) wr, trivial⟩ rfl (by decide) (by decide) rfl rfl rfl rfl (by simp)
        · have h9 : x.o ≠ 9 := by simpa using h9
          refine AtR.mk' [0, 1, 4] 5 (i + 1, .s1 x.w) ⟨⟨hlt, by rw [hs2, efStep, if_neg fun h => h9 h.1]⟩, by dsimp only; omega⟩ rfl ⟨rfl, rfl, rfl, rfl, rfl, rfl, rfl, rfl, rfl, rfl, congrArg (fun z : Int => (i64 z : AV)) wr, trivial⟩ rfl (by decide) (by decide) rfl rfl rfl rfl (by simp)
    · have hlt : ¬ i < n := by
        have := of_decide_eq_false hlt
        have : ¬ (i : Int) < (n : Int) := this
        omega
      obtain rfl : i = n := by omega
      rw [List.take_of_length_le (by omega)] at hs
      have he : effZ t k w acts frm to done = efPts t k w done (efRun t frm to done acts) := rfl
      rw [← hs] at he
      refine SS.inlR ?_
      refine brc_intro (fun hd => ?_) (fun hd => ?_)
      · have hd : done = true := hd
        refine at2 (by decide) (by decide) (rd1 (rowZ v) (.int .i64 v) rfl rfl ?_)
        exact ⟨5, [0, 4], _, _, rfl, rfl, by decide, by decide, rfl, rfl, rfl, rfl, rfl, hone ⟨v, t, k, false⟩ (by rw [he, efPts]; rw [if_pos hd])⟩
      
      · have hd : ¬ done = true := by
          have hd : done = false := hd
          rw [hd]; decide
        exact ⟨1, [0], _, _, rfl, rfl, by decide, by decide, rfl, rfl, rfl, rfl, rfl, hnil (by rw [he, efPts, if_neg hd])⟩
  | s2 v =>
    refine S_r ?_
    refine brc_intro (fun hlt => ?_) (fun hlt => ?_)
    · have hlt : i < n := by
        have := of_decide_eq_true hlt
        have : (i : Int) < (n : Int) := this
        omega
      have wr : IntKind.i64.wrap ((i : Int) + 1) = ((i + 1 : Nat) : Int) := by omega
      obtain ⟨x, hx⟩ : ∃ x, acts[i]? = some x := ⟨_, List.getElem?_eq_getElem (by omega)⟩
      have hxa : (acts.map rowAct)[0 + Int.toNat (i : Int)]? = some (rowAct x) := by rw [Nat.zero_add, Int.toNat_natCast, List.getElem?_map, hx]; rfl
      have hs1 := efRun_take (t := t) (frm := frm) (to := to) (done := done) hx
      rw [← hs] at hs1
      have hs1n : hitB t frm to done x = false → (.s2 v) = efRun t frm to done (acts.take (i + 1)) := fun h => by rw [hs1, h]; rfl
      have hs1y : hitB t frm to done x = true → efRun t frm to done (acts.take (i + 1)) = efStep (.s2 v) x := fun h => by rw [hs1, h]; rfl
      refine SS.inlR ?_
      refine at2 (a := (0 : Int) ≤ (i : Int)) (b := (i : Int) < (n : Int)) (by omega) (by omega) (rdA (rowAct x) hxa ?_)
      refine brc_intro (fun q1 => ?_) (fun q1 => ?_)
      · have q1 : (x.t == t) = false := by
          have q1 : (x.t != t) = true := q1
          rw [bne, Bool.not_eq_true'] at q1
          exact q1
        refine AtR.mk' [0, 1, 2] 4 (i + 1, _) ⟨⟨hlt, hs1n (by rw [hitB, q1]; rfl)⟩, by dsimp only; omega⟩ rfl ⟨rfl, rfl, rfl, rfl, rfl, rfl, rfl, rfl, rfl, rfl, congrArg (fun z : Int => (i64 z : AV)) wr, trivial⟩ rfl (by decide) (by decide) rfl rfl rfl rfl (by simp)
      have q1 : (x.t == t) = true := by
        have q1 : (x.t != t) = false := q1
        rw [bne, Bool.not_eq_false'] at q1
        exact q1
      refine brc_intro (fun q2 => ?_) (fun q2 => ?_)
      · have q2 : (x.c == 0) = false := by
          have q2 : (x.c != 0) = true := q2
          rw [bne, Bool.not_eq_true'] at q2
          exact q2
        refine AtR.mk' [0, 1, 2] 4 (i + 1, _) ⟨⟨hlt, hs1n (by rw [hitB, q1, q2]; rfl)⟩, by dsimp only; omega⟩ rfl ⟨rfl, rfl, rfl, rfl, rfl, rfl, rfl, rfl, rfl, rfl, congrArg (fun z : Int => (i64 z : AV)) wr, trivial⟩ rfl (by decide) (by decide) rfl rfl rfl rfl (by simp)
      have q2 : (x.c == 0) = true := by
        have q2 : (x.c != 0) = false := q2
        rw [bne, Bool.not_eq_false'] at q2
        exact q2
      refine brc_intro (fun q3 => ?_) (fun q3 => ?_)
      · have q3 : decide (frm < x.w) = false := by
          have q3 := of_decide_eq_true q3
          have q3 : x.w ≤ frm := q3
          exact decide_eq_false (by omega)
        refine AtR.mk' [0, 1, 2] 4 (i + 1, _) ⟨⟨hlt, hs1n (by rw [hitB, q1, q2, q3]; rfl)⟩, by dsimp only; omega⟩ rfl ⟨rfl, rfl, rfl, rfl, rfl, rfl, rfl, rfl, rfl, rfl, congrArg (fun z : Int => (i64 z : AV)) wr, trivial⟩ rfl (by decide) (by decide) rfl rfl rfl rfl (by simp)
      have q3 : decide (frm < x.w) = true := by
        have q3 := of_decide_eq_false q3
        have q3 : ¬ x.w ≤ frm := q3
        exact decide_eq_true (by omega)
      refine brc_intro (fun q4 => ?_) (fun q4 => ?_)
      · have q4 : done = true := q4
        refine brc_intro (fun q5 => ?_) (fun q5 => ?_)
        · have q5 : decide (x.w ≥ to) = true := q5
          refine AtR.mk' [0, 1, 2] 4 (i + 1, _) ⟨⟨hlt, hs1n (by rw [hitB, q1, q2, q3, q4, q5]; rfl)⟩, by dsimp only; omega⟩ rfl ⟨rfl, rfl, rfl, rfl, rfl, rfl, rfl, rfl, rfl, rfl, congrArg (fun z : Int => (i64 z : AV)) wr, trivial⟩ rfl (by decide) (by decide) rfl rfl rfl rfl (by simp)
        · have q5 : decide (x.w ≥ to) = false := q5
          have hs2 := hs1y (by rw [hitB, q1, q2, q3, q4, q5]; rfl)
          refine brc_intro (fun h9 => ?_) (fun h9 => ?_)
          · have h9 : x.o = 9 := by simpa using h9
            refine brc_intro (fun hne => ?_) (fun hne => ?_)
            · have hne : x.x ≠ x.y := by
                have hne : (x.x != x.y) = true := hne
                simpa using hne
              refine AtR.mk' [0, 1, 4] 5 (i + 1, .s2 x.w) ⟨⟨hlt, by rw [hs2, efStep, if_pos ⟨h9, hne⟩]⟩, by dsimp only; omega⟩ rfl ⟨rfl, rfl, rfl, rfl, rfl, rfl, rfl, rfl, rfl, rfl, congrArg (fun z : Int => (i64 z : AV)) wr, trivial⟩ rfl (by decide) (by decide) rfl rfl rfl rfl (by simp)
            · have hne : x.x = x.y := by
                have hne : (x.x != x.y) = false := hne
                simpa using hne
              refine AtR.mk' [0, 1, 2, 4] 5 (i + 1, .s3 v x.w) ⟨⟨hlt, by rw [hs2, efStep, if_neg fun h => h.2 hne]⟩, by dsimp only; omega⟩ rfl ⟨rfl, rfl, rfl, rfl, rfl, rfl, rfl, rfl, rfl, rfl, congrArg (fun z : Int => (i64 z : AV)) wr, trivial⟩ rfl (by decide) (by decide) rfl rfl rfl rfl (by simp)
          · have h9 : x.o ≠ 9 := by simpa using h9
            refine AtR.mk' [0, 1, 2, 4] 5 (i + 1, .s3 v x.w) ⟨⟨hlt, by rw [hs2, efStep, if_neg fun h => h9 h.1]⟩, by dsimp only; omega⟩ rfl ⟨rfl, rfl, rfl, rfl, rfl, rfl, rfl, rfl, rfl, rfl, congrArg (fun z : Int => (i64 z : AV)) wr, trivial⟩ rfl (by decide) (by decide) rfl rfl rfl rfl (by simp)
      · have q4 : done = false := q4
        have hs2 := hs1y (by rw [hitB, q1, q2, q3, q4]; rfl)
        refine brc_intro (fun h9 => ?_) (fun h9 => ?_)
        · have h9 : x.o = 9 := by simpa using h9
          refine brc_intro (fun hne => ?_) (fun hne => ?_)
          · have hne : x.x ≠ x.y := by
              have hne : (x.x != x.y) = true := hne
              simpa using hne
            refine AtR.mk' [0, 1, 4] 5 (i + 1, .s2 x.w) ⟨⟨hlt, by rw [hs2, efStep, if_pos ⟨h9, hne⟩]⟩, by dsimp only; omega⟩ rfl ⟨rfl, rfl, rfl, rfl, rfl, rfl, rfl, rfl, rfl, rfl, congrArg (fun z : Int => (i64 z : AV)) wr, trivial⟩ rfl (by decide) (by decide) rfl rfl rfl rfl (by simp)
          · have hne : x.x = x.y := by
              have hne : (x.x != x.y) = false := hne
              simpa using hne
            refine AtR.mk' [0, 1, 2, 4] 5 (i + 1, .s3 v x.w) ⟨⟨hlt, by rw [hs2, efStep, if_neg fun h => h.2 hne]⟩, by dsimp only; omega⟩ rfl ⟨rfl, rfl, rfl, rfl, rfl, rfl, rfl, rfl, rfl, rfl, congrArg (fun z : Int => (i64 z : AV)) wr, trivial⟩ rfl (by decide) (by decide) rfl rfl rfl rfl (by simp)
        · have h9 : x.o ≠ 9 := by simpa using h9
          refine AtR.mk' [0, 1, 2, 4] 5 (i + 1, .s3 v x.w) ⟨⟨hlt, by rw [hs2, efStep, if_neg fun h => h9 h.1]⟩, by dsimp only; omega⟩ rfl ⟨rfl, rfl, rfl, rfl, rfl, rfl, rfl, rfl, rfl, rfl, congrArg (fun z : Int => (i64 z : AV)) wr, trivial⟩ rfl (by decide) (by decide) rfl rfl rfl rfl (by simp)
    · have hlt : ¬ i < n := by
        have := of_decide_eq_false hlt
        have : ¬ (i : Int) < (n : Int) := this
        omega
      obtain rfl : i = n := by omega
      rw [List.take_of_length_le (by omega)] at hs
      have he : effZ t k w acts frm to done = efPts t k w done (efRun t frm to done acts) := rfl
      rw [← hs] at he
      refine SS.inlR ?_
      refine brc_intro (fun h9 => ?_) (fun h9 => ?_)
      · have h9 : w = 9 := by simpa using h9
        refine brc_intro (fun hd => ?_) (fun hd => ?_)
        · have hd : done = true := hd
          refine SS.drawR follows (by decide) ?_
          refine at2 (by decide) (by decide) (rd1 (rowZ v) (.int .i64 v) rfl rfl ?_)
          refine at2 (by decide) (by decide) (rd1 (rowZ v) (.int .i64 v) rfl rfl ?_)
          repeat' (first | refine And.intro rfl ?_ | refine And.intro (And.intro (Int.le_refl 0) (And.intro Int.zero_lt_one rfl)) ?_ | refine And.intro (Exists.intro _ (Exists.intro _ (And.intro rfl (And.intro rfl rfl)))) ?_ | fail)
          exact ⟨6, [0, 5], _, _, rfl, rfl, by decide, by decide, rfl, rfl, rfl, rfl, rfl, htwo ⟨v, t, k, false⟩ ⟨v, t, k, true⟩ (by rw [he, efPts, if_pos ⟨h9, hd⟩])⟩
        · have hd : ¬ (w = 9 ∧ done = true) := fun h => by
            have hd : done = false := hd
            rw [hd] at h
            cases h.2
          refine at2 (by decide) (by decide) (rd1 (rowZ v) (.int .i64 v) rfl rfl ?_)
          exact ⟨5, [0, 4], _, _, rfl, rfl, by decide, by decide, rfl, rfl, rfl, rfl, rfl, hone ⟨v, t, k, false⟩ (by rw [he, efPts]; rw [if_neg hd])⟩
      
      · have hd : ¬ (w = 9 ∧ done = true) := fun h => by
          have h9 : ¬ w = 9 := by simpa using h9
          exact h9 h.1
        refine at2 (by decide) (by decide) (rd1 (rowZ v) (.int .i64 v) rfl rfl ?_)
        exact ⟨5, [0, 4], _, _, rfl, rfl, by decide, by decide, rfl, rfl, rfl, rfl, rfl, hone ⟨v, t, k, false⟩ (by rw [he, efPts]; rw [if_neg hd])⟩
  | s3 c v =>
    refine S_r ?_
    refine brc_intro (fun hlt => ?_) (fun hlt => ?_)
    · have hlt : i < n := by
        have := of_decide_eq_true hlt
        have : (i : Int) < (n : Int) := this
        omega
      have wr : IntKind.i64.wrap ((i : Int) + 1) = ((i + 1 : Nat) : Int) := by omega
      obtain ⟨x, hx⟩ : ∃ x, acts[i]? = some x := ⟨_, List.getElem?_eq_getElem (by omega)⟩
      have hxa : (acts.map rowAct)[0 + Int.toNat (i : Int)]? = some (rowAct x) := by rw [Nat.zero_add, Int.toNat_natCast, List.getElem?_map, hx]; rfl
      have hs1 := efRun_take (t := t) (frm := frm) (to := to) (done := done) hx
      rw [← hs] at hs1
      have hs1n : hitB t frm to done x = false → (.s3 c v) = efRun t frm to done (acts.take (i + 1)) := fun h => by rw [hs1, h]; rfl
      have hs1y : hitB t frm to done x = true → efRun t frm to done (acts.take (i + 1)) = efStep (.s3 c v) x := fun h => by rw [hs1, h]; rfl
      refine SS.inlR ?_
      refine at2 (a := (0 : Int) ≤ (i : Int)) (b := (i : Int) < (n : Int)) (by omega) (by omega) (rdA (rowAct x) hxa ?_)
      refine brc_intro (fun q1 => ?_) (fun q1 => ?_)
      · have q1 : (x.t == t) = false := by
          have q1 : (x.t != t) = true := q1
          rw [bne, Bool.not_eq_true'] at q1
          exact q1
        refine AtR.mk' [0, 1, 2, 3] 5 (i + 1, _) ⟨⟨hlt, hs1n (by rw [hitB, q1]; rfl)⟩, by dsimp only; omega⟩ rfl ⟨rfl, rfl, rfl, rfl, rfl, rfl, rfl, rfl, rfl, rfl, congrArg (fun z : Int => (i64 z : AV)) wr, trivial⟩ rfl (by decide) (by decide) rfl rfl rfl rfl (by simp)
      have q1 : (x.t == t) = true := by
        have q1 : (x.t != t) = false := q1
        rw [bne, Bool.not_eq_false'] at q1
        exact q1
      refine brc_intro (fun q2 => ?_) (fun q2 => ?_)
      · have q2 : (x.c == 0) = false := by
          have q2 : (x.c != 0) = true := q2
          rw [bne, Bool.not_eq_true'] at q2
          exact q2
        refine AtR.mk' [0, 1, 2, 3] 5 (i + 1, _) ⟨⟨hlt, hs1n (by rw [hitB, q1, q2]; rfl)⟩, by dsimp only; omega⟩ rfl ⟨rfl, rfl, rfl, rfl, rfl, rfl, rfl, rfl, rfl, rfl, congrArg (fun z : Int => (i64 z : AV)) wr, trivial⟩ rfl (by decide) (by decide) rfl rfl rfl rfl (by simp)
      have q2 : (x.c == 0) = true := by
        have q2 : (x.c != 0) = false := q2
        rw [bne, Bool.not_eq_false'] at q2
        exact q2
      refine brc_intro (fun q3 => ?_) (fun q3 => ?_)
      · have q3 : decide (frm < x.w) = false := by
          have q3 := of_decide_eq_true q3
          have q3 : x.w ≤ frm := q3
          exact decide_eq_false (by omega)
        refine AtR.mk' [0, 1, 2, 3] 5 (i + 1, _) ⟨⟨hlt, hs1n (by rw [hitB, q1, q2, q3]; rfl)⟩, by dsimp only; omega⟩ rfl ⟨rfl, rfl, rfl, rfl, rfl, rfl, rfl, rfl, rfl, rfl, congrArg (fun z : Int => (i64 z : AV)) wr, trivial⟩ rfl (by decide) (by decide) rfl rfl rfl rfl (by simp)
      have q3 : decide (frm < x.w) = true := by
        have q3 := of_decide_eq_false q3
        have q3 : ¬ x.w ≤ frm := q3
        exact decide_eq_true (by omega)
      refine brc_intro (fun q4 => ?_) (fun q4 => ?_)
      · have q4 : done = true := q4
        refine brc_intro (fun q5 => ?_) (fun q5 => ?_)
        · have q5 : decide (x.w ≥ to) = true := q5
          refine AtR.mk' [0, 1, 2, 3] 5 (i + 1, _) ⟨⟨hlt, hs1n (by rw [hitB, q1, q2, q3, q4, q5]; rfl)⟩, by dsimp only; omega⟩ rfl ⟨rfl, rfl, rfl, rfl, rfl, rfl, rfl, rfl, rfl, rfl, congrArg (fun z : Int => (i64 z : AV)) wr, trivial⟩ rfl (by decide) (by decide) rfl rfl rfl rfl (by simp)
        · have q5 : decide (x.w ≥ to) = false := q5
          have hs2 := hs1y (by rw [hitB, q1, q2, q3, q4, q5]; rfl)
          refine brc_intro (fun h9 => ?_) (fun h9 => ?_)
          · have h9 : x.o = 9 := by simpa using h9
            refine brc_intro (fun hne => ?_) (fun hne => ?_)
            · have hne : x.x ≠ x.y := by
                have hne : (x.x != x.y) = true := hne
                simpa using hne
              refine AtR.mk' [0, 1, 5] 6 (i + 1, .s2 x.w) ⟨⟨hlt, by rw [hs2, efStep, if_pos ⟨h9, hne⟩]⟩, by dsimp only; omega⟩ rfl ⟨rfl, rfl, rfl, rfl, rfl, rfl, rfl, rfl, rfl, rfl, congrArg (fun z : Int => (i64 z : AV)) wr, trivial⟩ rfl (by decide) (by decide) rfl rfl rfl rfl (by simp)
            · have hne : x.x = x.y := by
                have hne : (x.x != x.y) = false := hne
                simpa using hne
              refine AtR.mk' [0, 1, 2, 5] 6 (i + 1, .s3 c x.w) ⟨⟨hlt, by rw [hs2, efStep, if_neg fun h => h.2 hne]⟩, by dsimp only; omega⟩ rfl ⟨rfl, rfl, rfl, rfl, rfl, rfl, rfl, rfl, rfl, rfl, congrArg (fun z : Int => (i64 z : AV)) wr, trivial⟩ rfl (by decide) (by decide) rfl rfl rfl rfl (by simp)
          · have h9 : x.o ≠ 9 := by simpa using h9
            refine AtR.mk' [0, 1, 2, 5] 6 (i + 1, .s3 c x.w) ⟨⟨hlt, by rw [hs2, efStep, if_neg fun h => h9 h.1]⟩, by dsimp only; omega⟩ rfl ⟨rfl, rfl, rfl, rfl, rfl, rfl, rfl, rfl, rfl, rfl, congrArg (fun z : Int => (i64 z : AV)) wr, trivial⟩ rfl (by decide) (by decide) rfl rfl rfl rfl (by simp)
      · have q4 : done = false := q4
        have hs2 := hs1y (by rw [hitB, q1, q2, q3, q4]; rfl)
        refine brc_intro (fun h9 => ?_) (fun h9 => ?_)
        · have h9 : x.o = 9 := by simpa using h9
          refine brc_intro (fun hne => ?_) (fun hne => ?_)
          · have hne : x.x ≠ x.y := by
              have hne : (x.x != x.y) = true := hne
              simpa using hne
            refine AtR.mk' [0, 1, 5] 6 (i + 1, .s2 x.w) ⟨⟨hlt, by rw [hs2, efStep, if_pos ⟨h9, hne⟩]⟩, by dsimp only; omega⟩ rfl ⟨rfl, rfl, rfl, rfl, rfl, rfl, rfl, rfl, rfl, rfl, congrArg (fun z : Int => (i64 z : AV)) wr, trivial⟩ rfl (by decide) (by decide) rfl rfl rfl rfl (by simp)
          · have hne : x.x = x.y := by
              have hne : (x.x != x.y) = false := hne
              simpa using hne
            refine AtR.mk' [0, 1, 2, 5] 6 (i + 1, .s3 c x.w) ⟨⟨hlt, by rw [hs2, efStep, if_neg fun h => h.2 hne]⟩, by dsimp only; omega⟩ rfl ⟨rfl, rfl, rfl, rfl, rfl, rfl, rfl, rfl, rfl, rfl, congrArg (fun z : Int => (i64 z : AV)) wr, trivial⟩ rfl (by decide) (by decide) rfl rfl rfl rfl (by simp)
        · have h9 : x.o ≠ 9 := by simpa using h9
          refine AtR.mk' [0, 1, 2, 5] 6 (i + 1, .s3 c x.w) ⟨⟨hlt, by rw [hs2, efStep, if_neg fun h => h9 h.1]⟩, by dsimp only; omega⟩ rfl ⟨rfl, rfl, rfl, rfl, rfl, rfl, rfl, rfl, rfl, rfl, congrArg (fun z : Int => (i64 z : AV)) wr, trivial⟩ rfl (by decide) (by decide) rfl rfl rfl rfl (by simp)
    · have hlt : ¬ i < n := by
        have := of_decide_eq_false hlt
        have : ¬ (i : Int) < (n : Int) := this
        omega
      obtain rfl : i = n := by omega
      rw [List.take_of_length_le (by omega)] at hs
      have he : effZ t k w acts frm to done = efPts t k w done (efRun t frm to done acts) := rfl
      rw [← hs] at he
      refine SS.inlR ?_
      refine brc_intro (fun h9 => ?_) (fun h9 => ?_)
      · have h9 : w = 9 := by simpa using h9
        refine brc_intro (fun hd => ?_) (fun hd => ?_)
        · have hd : done = true := hd
          refine SS.drawR follows (by decide) ?_
          refine at2 (by decide) (by decide) (rd1 (rowZ c) (.int .i64 c) rfl rfl ?_)
          refine at2 (by decide) (by decide) (rd1 (rowZ v) (.int .i64 v) rfl rfl ?_)
          repeat' (first | refine And.intro rfl ?_ | refine And.intro (And.intro (Int.le_refl 0) (And.intro Int.zero_lt_one rfl)) ?_ | refine And.intro (Exists.intro _ (Exists.intro _ (And.intro rfl (And.intro rfl rfl)))) ?_ | fail)
          exact ⟨7, [0, 6], _, _, rfl, rfl, by decide, by decide, rfl, rfl, rfl, rfl, rfl, htwo ⟨c, t, k, false⟩ ⟨v, t, k, true⟩ (by rw [he, efPts, if_pos ⟨h9, hd⟩])⟩
        · have hd : ¬ (w = 9 ∧ done = true) := fun h => by
            have hd : done = false := hd
            rw [hd] at h
            cases h.2
          refine at2 (by decide) (by decide) (rd1 (rowZ c) (.int .i64 c) rfl rfl ?_)
          exact ⟨6, [0, 5], _, _, rfl, rfl, by decide, by decide, rfl, rfl, rfl, rfl, rfl, hone ⟨c, t, k, false⟩ (by rw [he, efPts]; rw [if_neg hd])⟩
      
      · have hd : ¬ (w = 9 ∧ done = true) := fun h => by
          have h9 : ¬ w = 9 := by simpa using h9
          exact h9 h.1
        refine at2 (by decide) (by decide) (rd1 (rowZ c) (.int .i64 c) rfl rfl ?_)
        exact ⟨6, [0, 5], _, _, rfl, rfl, by decide, by decide, rfl, rfl, rfl, rfl, rfl, hone ⟨c, t, k, false⟩ (by rw [he, efPts]; rw [if_neg hd])⟩

end
end Go.Mac
