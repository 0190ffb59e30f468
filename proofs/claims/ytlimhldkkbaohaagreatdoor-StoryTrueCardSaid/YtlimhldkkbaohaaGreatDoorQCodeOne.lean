/- code.one: the instruction that a line is, where it is one. -/
import Derived.Test.YtlimhldkkbaohaaGreatDoorQSplit2
import Derived.Test.YtlimhldkkbaohaaGreatDoorGForm
open Go Go.Proofs Go.Mac
set_option maxRecDepth 100000
namespace Go.Mac

/-- The ops' names. -/
def nameZ : List (List UInt8) := [[104, 97, 108, 116], [108, 101, 116], [99, 111, 112, 121], [112, 108, 117, 115], [115, 117, 109], [102, 105, 101, 108, 100], [108, 111, 97, 100], [115, 116, 111, 114, 101], [102, 101, 116, 99, 104], [115, 119, 97, 112], [106, 117, 109, 112], [115, 97, 109, 101], [108, 101, 115, 115], [101, 113, 117, 97, 108], [119, 97, 105, 116], [119, 97, 107, 101], [115, 97, 121]]

section
variable {K : AV → List Nat → List PO → Prop}

theorem codeName (op : Nat) (hop : op < 17) (h : K (st (nameZ.getD op [])) [] []) : Does Tryz.prog 78 [i64 op] [] K := by
  refine does Tryz.func78 rfl (by decide) ?_
  refine at2 (a := (0 : Int) ≤ (op : Int)) (b := (op : Int) < (17 : Nat)) (by omega) (by omega) ?_
  refine Exists.intro (CV.f (FC.str (nameZ.getD op []))) (And.intro ?_ h)
  rcases (show op = 0 ∨ op = 1 ∨ op = 2 ∨ op = 3 ∨ op = 4 ∨ op = 5 ∨ op = 6 ∨ op = 7 ∨ op = 8 ∨ op = 9 ∨ op = 10 ∨ op = 11 ∨ op = 12 ∨ op = 13 ∨ op = 14 ∨ op = 15 ∨ op = 16 by omega) with rfl | rfl | rfl | rfl | rfl | rfl | rfl | rfl | rfl | rfl | rfl | rfl | rfl | rfl | rfl | rfl | rfl <;> rfl

end

/-- A line, and the instruction that it is. -/
structure LineZ (s : List UInt8) (n : Nat) (ps rs : List (List UInt8)) (op : Nat) (xs : List Int) (ts : List Nat) : Prop where
  parts : PartsS 32 n ps rs
  cnt : Lib.countByte s 32 = n
  n20 : n ≤ 20
  sl : n ≤ s.length ∧ s.length ≤ 1000
  r0 : rs[0]? = some s
  op17 : op < 17
  nm : ps[0]? = some (nameZ.getD op [])
  no : ∀ o, o < op → nameZ.getD o [] ≠ nameZ.getD op []
  xl : xs.length = 4
  a0 : ts.getD 0 0 = 1
  a4 : ts.getD 4 0 = n + 1
  arg : ∀ i, i < 4 → fo op i = 0 ∧ xs.getD i 0 = 0 ∧ ts.getD (i + 1) 0 = ts.getD i 0 ∨ fo op i ≠ 0 ∧ ts.getD i 0 < n + 1 ∧ ts.getD (i + 1) 0 = ts.getD i 0 + 1 ∧ ∃ t, ps[ts.getD i 0]? = some t ∧ t.length ≤ 18 ∧ Lib.atoi t = some (xs.getD i 0) ∧ Lib.itoa (xs.getD i 0) = t ∧ -9223372036854775808 ≤ xs.getD i 0 ∧ xs.getD i 0 ≤ 9223372036854775807

def insL (op : Nat) (xs : List Int) : InsZ := ⟨op, xs.getD 0 0, xs.getD 1 0, xs.getD 2 0, xs.getD 3 0⟩

section
variable {K : AV → List Nat → List PO → Prop}

/-- What is read by then. -/
def accZ (xs : List Int) (i : Nat) : List CV := [.f (.int .i64 (bif Nat.blt 0 i then xs.getD 0 0 else 0)), .f (.int .i64 (bif Nat.blt 1 i then xs.getD 1 0 else 0)), .f (.int .i64 (bif Nat.blt 2 i then xs.getD 2 0 else 0)), .f (.int .i64 (bif Nat.blt 3 i then xs.getD 3 0 else 0))]

theorem accZ_zero {xs : List Int} {i : Nat} (hi : i < 4) (h : xs.getD i 0 = 0) : accZ xs (i + 1) = accZ xs i := by
  rcases (show i = 0 ∨ i = 1 ∨ i = 2 ∨ i = 3 by omega) with rfl | rfl | rfl | rfl
  · show [_, _, _, _] = [_, _, _, _]
    rw [h]; rfl
  · show [_, _, _, _] = [_, _, _, _]
    rw [h]; rfl
  · show [_, _, _, _] = [_, _, _, _]
    rw [h]; rfl
  · show [_, _, _, _] = [_, _, _, _]
    rw [h]; rfl

theorem codeOne {s : List UInt8} {n : Nat} {ps rs : List (List UInt8)} {op : Nat} {xs : List Int} {ts : List Nat} (hL : LineZ s n ps rs op xs ts) (h : K (.tup [.agg ((rowIns (insL op xs)).map .f), .c (.f (.bool true))]) [] [powH]) :
    Does Tryz.prog 48 [st s] [powH] K := by
  refine Does.keep 1 rfl ?_
  refine does Tryz.func48 rfl (by decide) ?_
  change Does Tryz.prog 65 _ _ _
  refine Does.alone 2 (strSplit hL.parts hL.cnt hL.n20 hL.sl hL.r0 ?_)
  have hop := hL.op17
  refine SS.loop (fun o : Nat => o ≤ op) (fun o => [(2, cv (.ptr 1 0)), (3, bl false), (4, cv (.slc 2 0 (n + 1) none true)), (5, i64 o)])
    (fun _ => [powH, .one [.f (.int .i64 0), .f (.int .i64 0), .f (.int .i64 0), .f (.int .i64 0), .f (.int .i64 0)], .rows false 1 (ps.map rowStr)]) (fun o => op - o) [] (At.mk' [2, 3, 4, 5] 0 (by simp) ⟨rfl, rfl⟩ rfl rfl (by simp) (by simp) (by simp)) ?_
  intro o ho
  change o ≤ op at ho
  refine S_r ?_
  refine brc_intro (fun _ => ?_) (fun hlt => ?_)
  · refine SS.drawR follows (by decide) ?_
    have hp0 : (ps.map rowStr)[0 + Int.toNat 0]? = some (rowStr (nameZ.getD op [])) := by simp [hL.nm]
    have hn0 : (0 : Int) < ((n + 1 : Nat) : Int) := by omega
    refine at2 (Int.le_refl 0) hn0 (rd1 (rowStr (nameZ.getD op [])) (.str (nameZ.getD op [])) hp0 rfl ?_)
    change Does Tryz.prog 78 _ _ _
    refine Does.alone 3 (codeName o (by omega) ?_)
    refine And.intro rfl ?_
    refine And.intro (And.intro (Int.le_refl 0) (And.intro hn0 rfl)) ?_
    refine And.intro (Exists.intro (rowStr (nameZ.getD op [])) (Exists.intro (FC.str (nameZ.getD op [])) (And.intro hp0 (And.intro rfl rfl)))) ?_
    refine brc_intro (fun hne => ?_) (fun heq => ?_)
    · have hne : nameZ.getD o [] ≠ nameZ.getD op [] := by simpa using hne
      have ho2 : o ≠ op := fun e => hne (by rw [e])
      refine At.mk' [2, 3, 4, 5] (o + 1) ⟨by omega, by omega⟩ ⟨?_, rfl⟩ rfl rfl (by simp) (by simp) (by decide)
      rw [wrap_i64 ((o : Int) + 1) (by omega) (by omega)]
      rfl
    · have heq : nameZ.getD o [] = nameZ.getD op [] := by simpa using heq
      have ho2 : o = op := Classical.byContradiction fun hne => hL.no o (by omega) heq
      subst ho2
      change Does Tryz.prog 30 _ _ _
      refine Does.alone 4 (form (o : Int) (by omega) ?_)
      refine SS.loop (fun i : Nat => i ≤ 4) (fun i => [(2, cv (.ptr 1 0)), (3, bl false), (4, cv (.slc 2 0 (n + 1) none true)), (5, i64 o), (6, cv (.ptr 3 0)), (7, i64 (ts.getD i 0 : Nat)), (25, pvF o), (26, i64 i)])
        (fun i => [powH, .one [.f (.int .i64 0), .f (.int .i64 0), .f (.int .i64 0), .f (.int .i64 0), .f (.int .i64 0)], .rows false 1 (ps.map rowStr), .one (accZ xs i)]) (fun i => 4 - i) []
        (At.mk' [2, 3, 4, 5, 6, 7, 25, 26] 0 (by simp) ⟨?_, rfl⟩ rfl rfl (by simp) (by simp) (by simp)) ?_
      · rw [hL.a0]
        rfl
      intro i hi
      change i ≤ 4 at hi
      refine S_r ?_
      refine brc_intro (fun hlt => ?_) (fun hlt => ?_)
      · have hlt : i < 4 := by
          have := of_decide_eq_true hlt
          have : (i : Int) < 4 := this
          omega
        have hA := hL.arg i hlt
        have hfo : ([.f (.int .i64 (fo o 0)), .f (.int .i64 (fo o 1)), .f (.int .i64 (fo o 2)), .f (.int .i64 (fo o 3))] : List CV)[i]? = some (.f (.int .i64 (fo o i))) := by
          rcases (show i = 0 ∨ i = 1 ∨ i = 2 ∨ i = 3 by omega) with rfl | rfl | rfl | rfl <;> rfl
        refine SS.inlR ?_
        refine at2 (a := (0 : Int) ≤ (i : Int)) (b := (i : Int) < (4 : Nat)) (by omega) (by omega) ?_
        refine Exists.intro (CV.f (.int .i64 (fo o i))) (And.intro (by rw [show szOf Tryz.prog 3 = 1 from rfl, Int.toNat_natCast, Nat.mul_one]; exact hfo) ?_)
        have wi : IntKind.i64.wrap ((i : Int) + 1) = ((i + 1 : Nat) : Int) := wrap_i64 _ (by omega) (by omega)
        refine brc_intro (fun h0 => ?_) (fun h0 => ?_)
        · have h0 : fo o i = 0 := by simpa using h0
          rcases hA with ⟨_, hx, ht⟩ | ⟨hne, _⟩
          · refine At.mk' [2, 3, 4, 5, 6, 7, 25, 26] (i + 1) ⟨by omega, by omega⟩ ⟨?_, rfl⟩ ?_ rfl (by simp) (by simp) (by decide)
            · rw [ht, wi]
            · rw [accZ_zero hlt hx]
              rfl
          · exact absurd h0 hne
        · have h0 : fo o i ≠ 0 := by simpa using h0
          rcases hA with ⟨he, _⟩ | ⟨_, hta, ht, t, hpt, htl, hat, hit, hx0, hx1⟩
          · exact absurd he h0
          refine brc_intro (fun h1 => ?_) (fun _ => ?_)
          · exfalso
            have h1 : ((ts.getD i 0 : Nat) : Int) = ((n + 1 : Nat) : Int) := by simpa using h1
            omega
          have hpr : (ps.map rowStr)[0 + Int.toNat ((ts.getD i 0 : Nat) : Int)]? = some (rowStr t) := by rw [Int.toNat_natCast, Nat.zero_add, List.getElem?_map, hpt]; rfl
          refine at2 (a := (0 : Int) ≤ ((ts.getD i 0 : Nat) : Int)) (b := ((ts.getD i 0 : Nat) : Int) < ((n + 1 : Nat) : Int)) (by omega) (by omega) (rd1 (rowStr t) (.str t) hpr rfl ?_)
          change Does Tryz.prog 79 _ _ _
          refine Does.alone 4 (strAtoi t (xs.getD i 0) htl hat ?_)
          refine SS.drawR follows (by decide) ?_
          have hA0 : (0 : Int) ≤ ((ts.getD i 0 : Nat) : Int) := by omega
          have hA1 : ((ts.getD i 0 : Nat) : Int) < ((n + 1 : Nat) : Int) := by omega
          refine at2 hA0 hA1 (rd1 (rowStr t) (.str t) hpr rfl ?_)
          change Does Tryz.prog 36 _ _ _
          refine Does.on 4 [0] _ _ (strItoa (xs.getD i 0) hx0 hx1 ?_)
          rw [hit]
          have hck : ∃ row x, (ps.map rowStr)[0 + Int.toNat ((ts.getD i 0 : Nat) : Int)]? = some row ∧ row[0]? = some x ∧ (AV.p (.c (.f x)) : AV) = st t := ⟨rowStr t, .str t, hpr, rfl, rfl⟩
          repeat' (first | refine And.intro rfl ?_ | refine And.intro (And.intro hA0 (And.intro hA1 rfl)) ?_ | refine And.intro hck ?_ | fail)
          refine brc_intro (fun hne => ?_) (fun _ => ?_)
          · exfalso
            simp at hne
          have hn20 := hL.n20
          have wt : IntKind.i64.wrap (((ts.getD i 0 : Nat) : Int) + 1) = ((ts.getD (i + 1) 0 : Nat) : Int) := by rw [ht, wrap_i64 _ (by omega) (by omega)]; rfl
          rcases (show i = 0 ∨ i = 1 ∨ i = 2 ∨ i = 3 by omega) with rfl | rfl | rfl | rfl
          · refine at2 (by simp) (by simp) ?_
            refine At.mk' [2, 3, 4, 5, 6, 7, 25, 26] 1 ⟨by omega, by omega⟩ ⟨?_, rfl⟩ ?_ rfl (by simp) (by simp) (by decide)
            · rw [wi, wt]
            · rfl
          · refine at2 (by simp) (by simp) ?_
            refine At.mk' [2, 3, 4, 5, 6, 7, 25, 26] 2 ⟨by omega, by omega⟩ ⟨?_, rfl⟩ ?_ rfl (by simp) (by simp) (by decide)
            · rw [wi, wt]
            · rfl
          · refine at2 (by simp) (by simp) ?_
            refine At.mk' [2, 3, 4, 5, 6, 7, 25, 26] 3 ⟨by omega, by omega⟩ ⟨?_, rfl⟩ ?_ rfl (by simp) (by simp) (by decide)
            · rw [wi, wt]
            · rfl
          · refine at2 (by simp) (by simp) ?_
            refine At.mk' [2, 3, 4, 5, 6, 7, 25, 26] 4 ⟨by omega, by omega⟩ ⟨?_, rfl⟩ ?_ rfl (by simp) (by simp) (by decide)
            · rw [wi, wt]
            · rfl
      · have hlt : ¬ (i : Int) < 4 := of_decide_eq_false hlt
        obtain rfl : i = 4 := by omega
        have hb : (((n + 1 : Nat) : Int) == ((n + 1 : Nat) : Int)) = true := by simp
        rw [← hb] at h
        rw [hL.a4]
        repeat (refine at2 (by simp) (by simp) ?_)
        exact ⟨1, [0], _, _, rfl, rfl, by decide, by decide, rfl, rfl, rfl, rfl, rfl, h⟩
  · have : ¬ (o : Int) < 17 := of_decide_eq_false hlt
    omega

end
end Go.Mac
