/- code.Print: a program as text. -/
import Derived.Test.YtlimhldkkbaohaaDoorQCodeT
import Derived.Test.YtlimhldkkbaohaaDoorQSplit2
import Derived.Test.YtlimhldkkbaohaaDoorQBld
open Go Go.Proofs Go.Mac
set_option maxRecDepth 100000
namespace Go.Mac

/-- What is written of an instruction by then. -/
def argsB (x : InsZ) (k : Nat) : List UInt8 := ((List.range k).map fun j => if fo x.op j = 0 then [] else 32 :: Lib.itoa (argZ x j)).flatten

theorem argsB_succ (x : InsZ) (k : Nat) : argsB x (k + 1) = argsB x k ++ (if fo x.op k = 0 then [] else 32 :: Lib.itoa (argZ x k)) := by
  simp [argsB, List.range_succ]

theorem join_tail (c : UInt8) : ∀ (p : List UInt8) (ps : List (List UInt8)), joinB c (p :: ps) = p ++ (ps.map fun q => c :: q).flatten
  | p, [] => by simp [joinB]
  | p, q :: ps => by
    rw [joinB_cons (by simp), join_tail c q ps]
    simp

theorem printL_args (x : InsZ) : printL x = nameZ.getD x.op.toNat [] ++ argsB x 4 := by
  unfold printL wordsZ
  rw [join_tail]
  congr 1
  have e : List.range 4 = [0, 1, 2, 3] := rfl
  simp only [argsB, e]
  by_cases h0 : fo x.op 0 = 0 <;> by_cases h1 : fo x.op 1 = 0 <;> by_cases h2 : fo x.op 2 = 0 <;> by_cases h3 : fo x.op 3 = 0 <;> simp [List.filter_cons, h0, h1, h2, h3]

theorem argsB_len {x : InsZ} (h : InsOk x) : ∀ k, k ≤ 4 → (argsB x k).length ≤ 21 * k
  | 0, _ => by simp [argsB]
  | k + 1, hk => by
    have ih := argsB_len h k (by omega)
    rw [argsB_succ, List.length_append]
    have : (if fo x.op k = 0 then [] else 32 :: Lib.itoa (argZ x k)).length ≤ 21 := by
      split
      · simp
      · have hin : In64 (argZ x k) := by
          rcases (show k = 0 ∨ k = 1 ∨ k = 2 ∨ k = 3 by omega) with rfl | rfl | rfl | rfl
          · exact h.a
          · exact h.b
          · exact h.c
          · exact h.d
        have := itoa_len hin.1 hin.2
        simp; omega
    omega

theorem name_len : ∀ o, o < 17 → (nameZ.getD o []).length ≤ 5 ∧ nameZ.getD o [] ≠ [] := by decide

theorem printL_len {x : InsZ} (h : InsOk x) : (printL x).length ≤ 89 := by
  have h17 := h.op
  have h1 := (name_len x.op.toNat (by omega)).1
  have h2 := argsB_len h 4 (by omega)
  rw [printL_args, List.length_append]
  omega

theorem printZ_len : ∀ (p : List InsZ), (∀ x ∈ p, InsOk x) → (printZ p).length ≤ 90 * p.length
  | [], _ => by simp [printZ]
  | x :: p, h => by
    have h1 := printL_len (h x (by simp))
    have ih := printZ_len p fun y hy => h y (by simp [hy])
    rw [printZ_cons]
    simp; omega

theorem printZ_take {p : List InsZ} {i : Nat} {x : InsZ} (h : p[i]? = some x) : printZ (p.take (i + 1)) = printZ (p.take i) ++ printL x ++ [10] := by
  rw [List.take_add_one, h, printZ_app]
  simp [printZ]

def opOk (x : InsZ) : Bool := decide (0 ≤ x.op ∧ x.op < 17)

section
variable {K : AV → List Nat → List PO → Prop}

set_option maxHeartbeats 4000000 in
theorem codePrint {p : List InsZ} {n : Nat} {ro nn : Bool} {c : Option Nat} (hn : p.length = n) (hn1 : n ≤ 1000000) (h64 : ∀ x ∈ p, In64 x.a ∧ In64 x.b ∧ In64 x.c ∧ In64 x.d)
    (h1 : (∀ x ∈ p, InsOk x) → K (.tup [.c (.f (.str (printZ p))), .c .niliface]) [] [powH, .rows ro 5 (p.map rowIns)])
    (h0 : ¬ (∀ x ∈ p, InsOk x) → ∀ e i : Int, K (.tup [.c (.f (.str [])), .c (.iface 117 (.ptr 2 0))]) [] [powH, .rows ro 5 (p.map rowIns), .one [.f (.int .i64 e), .f (.int .i64 i)]]) :
    Does Tryd.prog 24 [cv (.slc 1 0 n c nn)] [powH, .rows ro 5 (p.map rowIns)] K := by
  refine Does.keep 2 rfl ?_
  refine does Tryd.func24 rfl (by decide) ?_
  intro bk
  refine SS.loop (fun i : Nat => i ≤ n ∧ ∀ x ∈ p.take i, InsOk x) (fun i => [(4, cv (.hptr bk)), (10, cv (.slc 1 0 n c nn)), (11, i64 n), (12, i64 i)]) (fun i => [powH, .rows ro 5 (p.map rowIns), bldH bk (printZ (p.take i))]) (fun i => n - i) [2, 3, 4, 5]
    (At.mk' [4, 10, 11, 12] 0 ⟨by simp, by simp⟩ ⟨rfl, rfl⟩ rfl rfl (by simp) (by simp) (by simp)) ?_
  rintro i ⟨hi, hok⟩
  refine S_r ?_
  refine brc_intro (fun hlt => ?_) (fun hlt => ?_)
  · have hlt : i < n := by
      have := of_decide_eq_true hlt
      have : (i : Int) < (n : Int) := this
      omega
    obtain ⟨x, hx⟩ : ∃ x, p[i]? = some x := ⟨_, List.getElem?_eq_getElem (by omega)⟩
    have hxp := List.mem_of_getElem? hx
    obtain ⟨xa, xb, xc, xd⟩ := h64 x hxp
    have hbl := printZ_len (p.take i) hok
    rw [List.length_take] at hbl
    refine SS.inlR ?_
    refine at2 (a := (0 : Int) ≤ (i : Int)) (b := (i : Int) < (n : Int)) (by omega) (by omega) (rdA (rowIns x) (gIns hx) ?_)
    refine brc_intro (fun h => ?_) (fun ho => ?_)
    · have := of_decide_eq_true h
      refine ⟨5, [0, 1, 4], _, _, rfl, rfl, by decide, by decide, rfl, rfl, rfl, rfl, rfl, h0 (fun hall => ?_) _ _⟩
      have := (hall x hxp).op
      omega
    have ho := of_decide_eq_false ho
    refine brc_intro (fun h => ?_) (fun ho2 => ?_)
    · have := of_decide_eq_true h
      refine ⟨5, [0, 1, 4], _, _, rfl, rfl, by decide, by decide, rfl, rfl, rfl, rfl, rfl, h0 (fun hall => ?_) _ _⟩
      have := (hall x hxp).op
      omega
    have ho2 := of_decide_eq_false ho2
    have hxo : InsOk x := ⟨by omega, xa, xb, xc, xd⟩
    obtain ⟨o, hop⟩ : ∃ o : Nat, x.op = (o : Int) := ⟨x.op.toNat, by omega⟩
    have hnl := name_len o (by omega)
    change Does Tryd.prog 65 _ _ _
    rw [hop]
    refine Does.alone 4 (codeName o (by omega) ?_)
    change Does Tryd.prog 64 _ _ _
    refine Does.on 4 [2] _ _ (bldWrite (k := bk) (bs := printZ (p.take i)) (s := nameZ.getD o []) hnl.2 (by omega) ?_)
    change Does Tryd.prog 62 _ _ _
    refine Does.alone 4 (form (o : Int) (by omega) ?_)
    refine SS.loop (fun k : Nat => k ≤ 4) (fun k => [(4, cv (.hptr bk)), (10, cv (.slc 1 0 n c nn)), (11, i64 n), (12, i64 i), (7, cv (.ptr 4 0)), (44, .p (.agg [.f (.int .i64 x.a), .f (.int .i64 x.b), .f (.int .i64 x.c), .f (.int .i64 x.d)])), (45, i64 k)])
      (fun k => [powH, .rows ro 5 (p.map rowIns), bldH bk (printZ (p.take i) ++ nameZ.getD o [] ++ argsB x k), .one [.f (.int .i64 o), .f (.int .i64 x.a), .f (.int .i64 x.b), .f (.int .i64 x.c), .f (.int .i64 x.d)], .one [.f (.int .i64 (fo o 0)), .f (.int .i64 (fo o 1)), .f (.int .i64 (fo o 2)), .f (.int .i64 (fo o 3))]])
      (fun k => 4 - k) [2, 3, 4, 5] (At.mk' [4, 10, 11, 12, 7, 44, 45] 0 (by simp) ⟨rfl, rfl⟩ ?_ rfl (by simp) (by simp) (by decide)) ?_
    · show _ = _
      rw [show argsB x 0 = [] from rfl, List.append_nil]
      rfl
    intro k hk
    change k ≤ 4 at hk
    have hal := argsB_len hxo k hk
    refine S_r ?_
    refine brc_intro (fun hlt2 => ?_) (fun hlt2 => ?_)
    · have hlt2 : k < 4 := by
        have := of_decide_eq_true hlt2
        have : (k : Int) < 4 := this
        omega
      have hin : In64 (argZ x k) := by
        rcases (show k = 0 ∨ k = 1 ∨ k = 2 ∨ k = 3 by omega) with rfl | rfl | rfl | rfl
        · exact xa
        · exact xb
        · exact xc
        · exact xd
      have hil := itoa_len hin.1 hin.2
      have hsu := argsB_succ x k
      rw [hop] at hsu
      have wi : IntKind.i64.wrap ((k : Int) + 1) = ((k + 1 : Nat) : Int) := wrap_i64 _ (by omega) (by omega)
      refine SS.inlR ?_
      refine at2 (a := (0 : Int) ≤ (k : Int)) (b := (k : Int) < (4 : Nat)) (by omega) (by omega) ?_
      refine Exists.intro (.f (.int .i64 (argZ x k))) (And.intro (by rcases (show k = 0 ∨ k = 1 ∨ k = 2 ∨ k = 3 by omega) with rfl | rfl | rfl | rfl <;> rfl) ?_)
      have hk4 : k = 0 ∨ k = 1 ∨ k = 2 ∨ k = 3 := by omega
      rcases hk4 with rfl | rfl | rfl | rfl
      · refine at2 (by decide) (by decide) ?_
        refine brc_intro (fun h => ?_) (fun h => ?_)
        · have h : fo o 0 ≠ 0 := by simpa using h
          rw [if_neg h] at hsu
          change Does Tryd.prog 66 _ _ _
          refine Does.on 5 [0] _ _ (strItoa (argZ x 0) hin.1 hin.2 ?_)
          refine And.intro (by simp only [List.length_cons, List.length_nil]; omega) ?_
          change Does Tryd.prog 64 _ _ _
          refine Does.on 5 [2] _ _ (bldWrite (k := bk) (bs := printZ (p.take i) ++ nameZ.getD o [] ++ argsB x 0) (s := 32 :: Lib.itoa (argZ x 0)) (by simp) (by simp only [List.length_append, List.length_cons]; omega) ?_)
          refine At.mk' [4, 10, 11, 12, 7, 44, 45] 1 ⟨hlt2, by decide⟩ ⟨rfl, rfl⟩ ?_ rfl (by simp) (by simp) (by decide)
          rw [hsu, ← List.append_assoc]
          rfl
        · have h : fo o 0 = 0 := by simpa using h
          rw [if_pos h, List.append_nil] at hsu
          refine At.mk' [4, 10, 11, 12, 7, 44, 45] 1 ⟨hlt2, by decide⟩ ⟨rfl, rfl⟩ ?_ rfl (by simp) (by simp) (by decide)
          rw [hsu]
          rfl
      · refine at2 (by decide) (by decide) ?_
        refine brc_intro (fun h => ?_) (fun h => ?_)
        · have h : fo o 1 ≠ 0 := by simpa using h
          rw [if_neg h] at hsu
          change Does Tryd.prog 66 _ _ _
          refine Does.on 5 [0] _ _ (strItoa (argZ x 1) hin.1 hin.2 ?_)
          refine And.intro (by simp only [List.length_cons, List.length_nil]; omega) ?_
          change Does Tryd.prog 64 _ _ _
          refine Does.on 5 [2] _ _ (bldWrite (k := bk) (bs := printZ (p.take i) ++ nameZ.getD o [] ++ argsB x 1) (s := 32 :: Lib.itoa (argZ x 1)) (by simp) (by simp only [List.length_append, List.length_cons]; omega) ?_)
          refine At.mk' [4, 10, 11, 12, 7, 44, 45] 2 ⟨hlt2, by decide⟩ ⟨rfl, rfl⟩ ?_ rfl (by simp) (by simp) (by decide)
          rw [hsu, ← List.append_assoc]
          rfl
        · have h : fo o 1 = 0 := by simpa using h
          rw [if_pos h, List.append_nil] at hsu
          refine At.mk' [4, 10, 11, 12, 7, 44, 45] 2 ⟨hlt2, by decide⟩ ⟨rfl, rfl⟩ ?_ rfl (by simp) (by simp) (by decide)
          rw [hsu]
          rfl
      · refine at2 (by decide) (by decide) ?_
        refine brc_intro (fun h => ?_) (fun h => ?_)
        · have h : fo o 2 ≠ 0 := by simpa using h
          rw [if_neg h] at hsu
          change Does Tryd.prog 66 _ _ _
          refine Does.on 5 [0] _ _ (strItoa (argZ x 2) hin.1 hin.2 ?_)
          refine And.intro (by simp only [List.length_cons, List.length_nil]; omega) ?_
          change Does Tryd.prog 64 _ _ _
          refine Does.on 5 [2] _ _ (bldWrite (k := bk) (bs := printZ (p.take i) ++ nameZ.getD o [] ++ argsB x 2) (s := 32 :: Lib.itoa (argZ x 2)) (by simp) (by simp only [List.length_append, List.length_cons]; omega) ?_)
          refine At.mk' [4, 10, 11, 12, 7, 44, 45] 3 ⟨hlt2, by decide⟩ ⟨rfl, rfl⟩ ?_ rfl (by simp) (by simp) (by decide)
          rw [hsu, ← List.append_assoc]
          rfl
        · have h : fo o 2 = 0 := by simpa using h
          rw [if_pos h, List.append_nil] at hsu
          refine At.mk' [4, 10, 11, 12, 7, 44, 45] 3 ⟨hlt2, by decide⟩ ⟨rfl, rfl⟩ ?_ rfl (by simp) (by simp) (by decide)
          rw [hsu]
          rfl
      · refine at2 (by decide) (by decide) ?_
        refine brc_intro (fun h => ?_) (fun h => ?_)
        · have h : fo o 3 ≠ 0 := by simpa using h
          rw [if_neg h] at hsu
          change Does Tryd.prog 66 _ _ _
          refine Does.on 5 [0] _ _ (strItoa (argZ x 3) hin.1 hin.2 ?_)
          refine And.intro (by simp only [List.length_cons, List.length_nil]; omega) ?_
          change Does Tryd.prog 64 _ _ _
          refine Does.on 5 [2] _ _ (bldWrite (k := bk) (bs := printZ (p.take i) ++ nameZ.getD o [] ++ argsB x 3) (s := 32 :: Lib.itoa (argZ x 3)) (by simp) (by simp only [List.length_append, List.length_cons]; omega) ?_)
          refine At.mk' [4, 10, 11, 12, 7, 44, 45] 4 ⟨hlt2, by decide⟩ ⟨rfl, rfl⟩ ?_ rfl (by simp) (by simp) (by decide)
          rw [hsu, ← List.append_assoc]
          rfl
        · have h : fo o 3 = 0 := by simpa using h
          rw [if_pos h, List.append_nil] at hsu
          refine At.mk' [4, 10, 11, 12, 7, 44, 45] 4 ⟨hlt2, by decide⟩ ⟨rfl, rfl⟩ ?_ rfl (by simp) (by simp) (by decide)
          rw [hsu]
          rfl
    · have hlt2 : ¬ (k : Int) < 4 := of_decide_eq_false hlt2
      obtain rfl : k = 4 := by omega
      change Does Tryd.prog 64 _ _ _
      refine Does.on 5 [2] _ _ (bldWrite (k := bk) (bs := printZ (p.take i) ++ nameZ.getD o [] ++ argsB x 4) (s := [10]) (by simp) (by simp only [List.length_append, List.length_cons, List.length_nil]; omega) ?_)
      refine At.mk' [4, 10, 11, 12] (i + 1) ⟨⟨hlt, ?_⟩, by omega⟩ ⟨?_, rfl⟩ ?_ rfl (by simp) (by simp) (by decide)
      · intro y hy
        rw [List.take_add_one, hx] at hy
        rcases List.mem_append.1 hy with hy | hy
        · exact hok y hy
        · obtain rfl := List.mem_singleton.1 (show y ∈ [x] from hy)
          exact hxo
      · rw [wrap_i64 _ (by omega) (by omega)]
        rfl
      · have hpl := printL_args x
        rw [hop, Int.toNat_natCast] at hpl
        rw [printZ_take hx, hpl]
        simp only [List.append_assoc]
        rfl
  · have hlt : ¬ (i : Int) < (n : Int) := of_decide_eq_false hlt
    obtain rfl : n = i := by omega
    rw [List.take_of_length_le (by omega)] at hok ⊢
    change Does Tryd.prog 67 _ _ _
    refine Does.on 3 [2] _ _ (bldString ?_)
    exact ⟨2, [0, 1], _, _, rfl, rfl, by decide, by decide, rfl, rfl, rfl, rfl, rfl, h1 hok⟩

end
end Go.Mac
