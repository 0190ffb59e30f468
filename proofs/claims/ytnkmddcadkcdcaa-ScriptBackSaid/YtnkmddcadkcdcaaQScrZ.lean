/- Scripts: bytes as moves, and a barrier behind them. -/
import Derived.Test.YtnkmddcadkcdcaaGBase
open Go Go.Proofs Go.Mac
set_option maxRecDepth 100000
namespace Go.Mac

/-- Three bytes at least. -/
def padB (t : List UInt8) : List UInt8 := t ++ List.replicate (3 - t.length) 0

/-- A byte's move, of so many threads. -/
def decM (n : Int) (b : UInt8) : MoveZ :=
  if 224 ≤ (b.toNat : Int) then ⟨Int.tmod (IntKind.i64.wrap (IntKind.u8.wrap ((b.toNat : Int) - 224))) n, true⟩ else ⟨Int.tmod (IntKind.i64.wrap (b.toNat : Int)) n, false⟩

def scrK (t : List UInt8) : Int := IntKind.i64.wrap (1 + Int.tmod (IntKind.i64.wrap (((padB t).getD 0 0).toNat : Int)) 6)
def scrN (t : List UInt8) : Int := IntKind.i64.wrap (1 + Int.tmod (IntKind.i64.wrap (((padB t).getD 1 0).toNat : Int)) 8)
def scrR (t : List UInt8) : Int := Int.tmod (IntKind.i64.wrap (((padB t).getD 2 0).toNat : Int)) 6
def scrM (t : List UInt8) : List MoveZ := ((padB t).drop 3).map (decM (scrN t))

theorem u8_lt (b : UInt8) : (b.toNat : Int) < 256 := by
  have := b.toNat_lt
  omega

theorem tmod_in {x : Int} (h0 : 0 ≤ x) {n : Int} (hn : 0 < n) : 0 ≤ Int.tmod x n ∧ Int.tmod x n < n := by
  rw [Int.tmod_eq_emod_of_nonneg h0]
  exact ⟨Int.emod_nonneg _ (by omega), Int.emod_lt_of_pos _ hn⟩

theorem scrK_in (t : List UInt8) : 1 ≤ scrK t ∧ scrK t ≤ 6 := by
  have h := u8_lt ((padB t).getD 0 0)
  have h2 := tmod_in (x := (((padB t).getD 0 0).toNat : Int)) (by omega) (n := 6) (by decide)
  rw [scrK, wrap_i64 (((padB t).getD 0 0).toNat : Int) (by omega) (by omega), wrap_i64 _ (by omega) (by omega)]
  omega

theorem scrN_in (t : List UInt8) : 1 ≤ scrN t ∧ scrN t ≤ 8 := by
  have h := u8_lt ((padB t).getD 1 0)
  have h2 := tmod_in (x := (((padB t).getD 1 0).toNat : Int)) (by omega) (n := 8) (by decide)
  rw [scrN, wrap_i64 (((padB t).getD 1 0).toNat : Int) (by omega) (by omega), wrap_i64 _ (by omega) (by omega)]
  omega

theorem scrR_in (t : List UInt8) : 0 ≤ scrR t ∧ scrR t ≤ 5 := by
  have h := u8_lt ((padB t).getD 2 0)
  have h2 := tmod_in (x := (((padB t).getD 2 0).toNat : Int)) (by omega) (n := 6) (by decide)
  rw [scrR, wrap_i64 (((padB t).getD 2 0).toNat : Int) (by omega) (by omega)]
  omega

theorem wrap_u8 (x : Int) (h0 : 0 ≤ x) (h1 : x < 256) : IntKind.u8.wrap x = x := by
  show Int.emod x _ = x
  exact Int.emod_eq_of_lt h0 h1

theorem decM_in (n : Int) (hn : 0 < n) (b : UInt8) : 0 ≤ (decM n b).th ∧ (decM n b).th < n := by
  have h := u8_lt b
  rw [decM]
  split
  · rename_i h2
    rw [wrap_u8 _ (by omega) (by omega), wrap_i64 _ (by omega) (by omega)]
    exact tmod_in (by omega) hn
  · rw [wrap_i64 _ (by omega) (by omega)]
    exact tmod_in (by omega) hn

theorem padB_len (t : List UInt8) : 3 ≤ (padB t).length := by
  rw [padB, List.length_append, List.length_replicate]
  omega

theorem padB_le (t : List UInt8) : (padB t).length ≤ t.length + 3 := by
  rw [padB, List.length_append, List.length_replicate]
  omega

theorem scrOf (t : List UInt8) : ∃ k n R : Nat, scrK t = k ∧ scrN t = n ∧ scrR t = R ∧ (1 ≤ k ∧ k ≤ 6) ∧ (1 ≤ n ∧ n ≤ 8) ∧ R ≤ 5 := by
  have h1 := scrK_in t
  have h2 := scrN_in t
  have h3 := scrR_in t
  exact ⟨(scrK t).toNat, (scrN t).toNat, (scrR t).toNat, by omega, by omega, by omega, by omega, by omega, by omega⟩

theorem padB_long {t : List UInt8} (h : 3 ≤ t.length) : padB t = t := by
  rw [padB, show 3 - t.length = 0 by omega, List.replicate_zero, List.append_nil]

theorem getD_app {t e : List UInt8} {j : Nat} (h : j < t.length) : (t ++ e).getD j 0 = t.getD j 0 := by
  rw [List.getD_eq_getElem?_getD, List.getD_eq_getElem?_getD, List.getElem?_append_left h]

theorem scr_more {t : List UInt8} (e : List UInt8) (h : 3 ≤ t.length) : scrK (t ++ e) = scrK t ∧ scrN (t ++ e) = scrN t ∧ scrR (t ++ e) = scrR t ∧ scrM (t ++ e) = scrM t ++ e.map (decM (scrN t)) := by
  have h2 : 3 ≤ (t ++ e).length := by rw [List.length_append]; omega
  have hn : scrN (t ++ e) = scrN t := by rw [scrN, scrN, padB_long h2, padB_long h, getD_app (by omega)]
  refine ⟨?_, hn, ?_, ?_⟩
  · rw [scrK, scrK, padB_long h2, padB_long h, getD_app (by omega)]
  · rw [scrR, scrR, padB_long h2, padB_long h, getD_app (by omega)]
  · rw [scrM, hn, scrM, padB_long h2, padB_long h, List.drop_append_of_le_length h, List.map_append]

theorem scrM_in (t : List UInt8) : ∀ x ∈ scrM t, 0 ≤ x.th ∧ x.th < scrN t := by
  intro x hx
  obtain ⟨b, _, rfl⟩ := List.mem_map.1 hx
  exact decM_in _ (by have := scrN_in t; omega) b

theorem scrM_len (t : List UInt8) : (scrM t).length ≤ t.length := by
  have h1 : (scrM t).length = (padB t).length - 3 := by rw [scrM, List.length_map, List.length_drop]
  have := padB_le t
  omega

section
variable {K : AV → List Nat → List PO → Prop}

theorem decode (t : List UInt8) (ht : t.length ≤ 2000) (h : K (.p (.agg [.f (.int .i64 (scrK t)), .f (.int .i64 (scrN t)), .f (.int .i64 (scrR t)), .slc 0 0 (scrM t).length none false])) [] [.rows false 2 ((scrM t).map rowMove)]) :
    Does Try.prog 18 [st t] [] K := by
  refine Does.keep 0 rfl ?_
  refine does Try.func18 rfl (by decide) ?_
  refine SS.loop (fun i : Nat => i ≤ 3 - t.length) (fun i => [(0, st (t ++ List.replicate i 0)), (2, cv (.ptr 0 0))]) (fun _ => [.one [.f (.int .i64 0), .f (.int .i64 0), .f (.int .i64 0), .nilslc]]) (fun i => 3 - t.length - i) []
    (At.mk' [0, 2] 0 (Nat.zero_le _) ⟨by rw [List.replicate_zero, List.append_nil], rfl⟩ rfl rfl (by simp) (by simp) (by simp)) ?_
  intro i hi
  change i ≤ 3 - t.length at hi
  have hl : (t ++ List.replicate i (0 : UInt8)).length = t.length + i := by simp
  refine S_r ?_
  refine brc_intro (fun hlt => ?_) (fun hlt => ?_)
  · have hlt : t.length + i < 3 := by
      have := of_decide_eq_true hlt
      have : (((t ++ List.replicate i (0 : UInt8)).length : Nat) : Int) < 3 := this
      rw [hl] at this
      omega
    refine And.intro (by rw [hl]; show t.length + i + 1 ≤ _; omega) ?_
    refine At.mk' [0, 2] (i + 1) ⟨by omega, by omega⟩ ⟨?_, rfl⟩ rfl rfl (by simp) (by simp) (by simp)
    rw [List.replicate_succ', ← List.append_assoc]
  · have hlt : ¬ t.length + i < 3 := by
      have := of_decide_eq_false hlt
      have : ¬ (((t ++ List.replicate i (0 : UInt8)).length : Nat) : Int) < 3 := this
      rw [hl] at this
      omega
    have hpad : t ++ List.replicate i (0 : UInt8) = padB t := by rw [padB, show 3 - t.length = i by omega]
    rw [hpad]
    have hpl := padB_len t
    have hple := padB_le t
    have hg : ∀ j, j < 3 → (padB t)[j]? = some ((padB t).getD j 0) := fun j hj => by
      rw [List.getD_eq_getElem?_getD, List.getElem?_eq_getElem (by omega)]
      rfl
    have h0 := hg 0 (by decide)
    have h1 := hg 1 (by decide)
    have h2 := hg 2 (by decide)
    refine SS.drawR follows (by decide) ?_
    refine And.intro (by decide) (Exists.intro _ (And.intro h0 ?_))
    refine And.intro (by decide) (Exists.intro _ (And.intro h1 ?_))
    refine And.intro (by decide) (Exists.intro _ (And.intro h2 ?_))
    repeat' (first | refine And.intro rfl ?_ | refine And.intro (And.intro (by decide) (Exists.intro _ (And.intro h0 rfl))) ?_ | refine And.intro (And.intro (by decide) (Exists.intro _ (And.intro h1 rfl))) ?_ | refine And.intro (And.intro (by decide) (Exists.intro _ (And.intro h2 rfl))) ?_ | fail)
    have hbs : ((padB t).drop (3 : Int).toNat).take ((padB t).length - (3 : Int).toNat) = (padB t).drop 3 := List.take_of_length_le (by simp)
    refine at2 (by decide) (by show (3 : Int) ≤ ((padB t).length : Int); omega) ?_
    have hbl : ((padB t).drop 3).length = (scrM t).length := by rw [scrM, List.length_map]
    have hbl2 : (scrM t).length ≤ 2000 := by
      rw [← hbl, List.length_drop]
      omega
    have hN := scrN_in t
    obtain ⟨m, hm⟩ : ∃ m, (scrM t).length = m := ⟨_, rfl⟩
    rw [hm] at hbl hbl2
    refine SS.nilH 1 3 2 (by decide) rfl rfl ?_
    refine SS.loop (fun i : Nat => i ≤ m) (fun i => [(2, cv (.ptr 0 0)), (3, cv (.ptr 1 0)), (29, cv (.slc 2 0 m none true)), (30, i64 m), (31, i64 i)])
      (fun i => [.one [.f (.int .i64 0), .f (.int .i64 0), .f (.int .i64 0), .nilslc], .one [.f (.int .i64 (scrK t)), .f (.int .i64 (scrN t)), .f (.int .i64 (scrR t)), .slc 3 0 i none false], .rows false 1 (((padB t).drop 3).map fun b => [.int .u8 (b.toNat : Int)]), .rows false 2 (((scrM t).take i).map rowMove)]) (fun i => m - i) [3]
      (At.mk' [2, 3, 29, 30, 31] 0 (Nat.zero_le _) ⟨?_, rfl⟩ ?_ rfl (by simp) (by simp) (by simp)) ?_
    · show [(2, cv (.ptr 0 0)), (3, cv (.ptr 1 0)), (29, cv (.slc 2 0 (((padB t).drop (3 : Int).toNat).take ((padB t).length - (3 : Int).toNat)).length none true)), (30, i64 (((padB t).drop (3 : Int).toNat).take ((padB t).length - (3 : Int).toNat)).length), (31, i64 0)] = _
      rw [hbs, hbl]
      rfl
    · show [PO.one [.f (.int .i64 0), .f (.int .i64 0), .f (.int .i64 0), .nilslc], PO.one _, .rows false 1 ((((padB t).drop (3 : Int).toNat).take ((padB t).length - (3 : Int).toNat)).map fun b => [.int .u8 (b.toNat : Int)]), .rows false 2 []] = _
      rw [hbs]
      rfl
    intro i hi
    change i ≤ m at hi
    refine S_r ?_
    refine brc_intro (fun hlt => ?_) (fun hlt => ?_)
    · have hlt : i < m := by
        have := of_decide_eq_true hlt
        have : (i : Int) < (m : Int) := this
        omega
      obtain ⟨b, hb⟩ : ∃ b, ((padB t).drop 3)[i]? = some b := ⟨_, List.getElem?_eq_getElem (by omega)⟩
      have hbm : (scrM t)[i]? = some (decM (scrN t) b) := by rw [scrM, List.getElem?_map, hb]; rfl
      have hbr : (((padB t).drop 3).map fun b => [FC.int .u8 (b.toNat : Int)])[0 + Int.toNat (i : Int)]? = some [.int .u8 (b.toNat : Int)] := by rw [Int.toNat_natCast, Nat.zero_add, List.getElem?_map, hb]; rfl
      have hnx : ((scrM t).take (i + 1)).map rowMove = ((scrM t).take i).map rowMove ++ [rowMove (decM (scrN t) b)] := by rw [List.take_add_one, hbm, List.map_append]; rfl
      have htl : (((scrM t).take i).map rowMove).length = i := by rw [List.length_map, List.length_take]; omega
      refine SS.inlR ?_
      refine at2 (a := (0 : Int) ≤ (i : Int)) (b := (i : Int) < (m : Int)) (by omega) (by omega) (rd1 [.int .u8 (b.toNat : Int)] (.int .u8 (b.toNat : Int)) hbr rfl ?_)
      refine nonzero_intro (show scrN t ≠ 0 by omega) ?_
      refine brc_intro (fun hp => ?_) (fun hp => ?_)
      · have hp : 224 ≤ (b.toNat : Int) := of_decide_eq_true hp
        rw [decM, if_pos hp] at hnx
        refine nonzero_intro (show scrN t ≠ 0 by omega) ?_
        refine And.intro (by simp) (Or.inl (And.intro rfl (And.intro htl.symm (And.intro (by show (i + 1) * 16 ≤ _; omega) (And.intro (by show i + 1 ≤ _; omega) ?_)))))
        refine At.mk' [2, 3, 29, 30, 31] (i + 1) ⟨hlt, by omega⟩ ⟨?_, rfl⟩ ?_ rfl (by simp) (by simp) (by simp)
        · rw [wrap_i64 (i + 1) (by omega) (by omega)]
          rfl
        · rw [hnx]
          rfl
      · have hp : ¬ 224 ≤ (b.toNat : Int) := of_decide_eq_false hp
        rw [decM, if_neg hp] at hnx
        refine And.intro (by simp) (Or.inl (And.intro rfl (And.intro htl.symm (And.intro (by show (i + 1) * 16 ≤ _; omega) (And.intro (by show i + 1 ≤ _; omega) ?_)))))
        refine At.mk' [2, 3, 29, 30, 31] (i + 1) ⟨hlt, by omega⟩ ⟨?_, rfl⟩ ?_ rfl (by simp) (by simp) (by simp)
        · rw [wrap_i64 (i + 1) (by omega) (by omega)]
          rfl
        · rw [hnx]
          rfl
    · have hlt : ¬ (i : Int) < (m : Int) := of_decide_eq_false hlt
      obtain rfl : i = m := by omega
      rw [show (scrM t).take i = scrM t from List.take_of_length_le (by omega)]
      rw [hm] at h
      exact ⟨4, [3], [PO.rows false 2 ((scrM t).map rowMove)], .p (.agg [.f (.int .i64 (scrK t)), .f (.int .i64 (scrN t)), .f (.int .i64 (scrR t)), .slc 0 0 i none false]), rfl, rfl, by decide, by decide, rfl, rfl, rfl, rfl, rfl, h⟩

theorem scrRight {k n r : Int} {ms : List MoveZ} {m : Nat} {ro nn : Bool} {c : Option Nat} (hk : 1 ≤ k ∧ k ≤ 6) (hn : 1 ≤ n ∧ n ≤ 8) (hr : 0 ≤ r ∧ r ≤ 5) (hm : ms.length = m) (hb : m ≤ 100000) (hms : ∀ x ∈ ms, 0 ≤ x.th ∧ x.th < n) (h : K (bl true) [] [.rows ro 2 (ms.map rowMove)]) :
    Does Try.prog 16 [.p (.agg [.f (.int .i64 k), .f (.int .i64 n), .f (.int .i64 r), .slc 0 0 m c nn])] [.rows ro 2 (ms.map rowMove)] K := by
  refine does Try.func16 rfl (by decide) ?_
  refine SS.loop (fun i : Nat => i ≤ m) (fun i => [(1, cv (.ptr 1 0)), (6, cv (.slc 0 0 m c nn)), (7, i64 m), (8, i64 i)])
    (fun _ => [.rows ro 2 (ms.map rowMove), .one [.f (.int .i64 k), .f (.int .i64 n), .f (.int .i64 r), .slc 0 0 m c nn]]) (fun i => m - i) []
    (At.mk' [1, 6, 7, 8] 0 (Nat.zero_le _) ⟨rfl, rfl⟩ rfl rfl (by simp) (by simp) (by simp)) ?_
  intro i hi
  change i ≤ m at hi
  refine S_r ?_
  refine brc_intro (fun hlt => ?_) (fun hlt => ?_)
  · have hlt : i < m := by
      have := of_decide_eq_true hlt
      have : (i : Int) < (m : Int) := this
      omega
    obtain ⟨x, hx⟩ : ∃ x, ms[i]? = some x := ⟨_, List.getElem?_eq_getElem (by omega)⟩
    obtain ⟨x0, x1⟩ := hms x (List.mem_of_getElem? hx)
    refine SS.inlR ?_
    refine at2 (a := (0 : Int) ≤ (i : Int)) (b := (i : Int) < (m : Int)) (by omega) (by omega) (rdA (rowMove x) (by simp [hx]) ?_)
    refine brc_intro (fun h9 => ?_) (fun _ => ?_)
    · have h9 : x.th < 0 := of_decide_eq_true h9
      omega
    refine brc_intro (fun h9 => ?_) (fun _ => ?_)
    · have h9 : x.th ≥ n := of_decide_eq_true h9
      omega
    refine At.mk' [1, 6, 7, 8] (i + 1) ⟨hlt, by omega⟩ ⟨?_, rfl⟩ rfl rfl (by simp) (by simp) (by simp)
    rw [wrap_i64 (i + 1) (by omega) (by omega)]
    rfl
  · refine brc_intro (fun _ => ?_) (fun h9 => ?_)
    · refine brc_intro (fun _ => ?_) (fun h9 => ?_)
      · refine brc_intro (fun _ => ?_) (fun h9 => ?_)
        · refine brc_intro (fun _ => ?_) (fun h9 => ?_)
          · refine brc_intro (fun _ => ?_) (fun h9 => ?_)
            · have h' : K (bl (decide (r ≤ 5))) [] [.rows ro 2 (ms.map rowMove)] := by
                rw [decide_eq_true hr.2]
                exact h
              exact h'
            · have h9 : ¬ r ≥ 0 := of_decide_eq_false h9
              omega
          · have h9 : ¬ n ≤ 8 := of_decide_eq_false h9
            omega
        · have h9 : ¬ n ≥ 1 := of_decide_eq_false h9
          omega
      · have h9 : ¬ k < 7 := of_decide_eq_false h9
        omega
    · have h9 : ¬ k ≥ 1 := of_decide_eq_false h9
      omega

end

end Go.Mac
