/- Texts that belong together; the first of them: Barriers: each party's program of each kind, walked. -/
import Derived.Test.YtlimhldkkbaohaaGreatDoorGDanceD
import Derived.Test.YtlimhldkkbaohaaGreatDoorQPart
import Derived.Test.YtlimhldkkbaohaaGreatDoorGMachN
import Derived.Test.YtlimhldkkbaohaaGreatDoorGFinish
import Derived.Test.YtlimhldkkbaohaaGreatDoorQTell

/- Barriers: each party's program of each kind, walked. -/
section
open Go Go.Proofs Go.Mac
set_option maxRecDepth 100000
namespace Go.Mac

section
variable {K : AV → List Nat → List PO → Prop}

theorem partCheck {n id R : Nat} (hn : 1 ≤ n ∧ n ≤ 16) (hid : id < n) (hR : R ≤ 20) (hK : K (cv .niliface) [] []) : Does Tryz.prog 80 [i64 n, i64 id, i64 R] [] K := by
  refine does Tryz.func80 rfl (by decide) ?_
  refine brc_intro (fun h => ?_) (fun _ => ?_)
  · have := of_decide_eq_true h; omega
  refine brc_intro (fun h => ?_) (fun _ => ?_)
  · have : (n : Int) > 16 := of_decide_eq_true h
    omega
  refine brc_intro (fun h => ?_) (fun _ => ?_)
  · have : (id : Int) ≥ (n : Int) := of_decide_eq_true h
    omega
  refine brc_intro (fun h => ?_) (fun _ => ?_)
  · have : (R : Int) > 20 := of_decide_eq_true h
    omega
  exact hK

theorem partWhole {b : List InsZ} {k R : Nat} {ro nn : Bool} {c : Option Nat} (hb : b.length = k) (hk : k ≤ 10000) (hR : R ≤ 1000) (hK : K (cv (.slc 1 0 (k + 8) none true)) [] [.rows ro 5 (b.map rowIns), .rows false 5 ((wholeZ R b).map rowIns)]) :
    Does Tryz.prog 81 [i64 R, cv (.slc 0 0 k c nn)] [.rows ro 5 (b.map rowIns)] K := by
  refine Does.keep 1 rfl ?_
  refine does Tryz.func81 rfl (by decide) ?_
  have e : List.take k (List.drop 0 (b.map rowIns)) = b.map rowIns := by rw [List.drop_zero, List.take_of_length_le (by simp; omega)]
  have e2 : (b.map rowIns).length = k := by simp [hb]
  refine And.intro (by simp; omega) (Or.inl (And.intro rfl (And.intro rfl (And.intro ?_ (And.intro ?_ ?_)))))
  · rw [e, e2]
    show (5 + k) * 40 ≤ _
    omega
  · rw [e, e2]
    omega
  rw [e]
  refine And.intro (by decide) (Or.inl (And.intro rfl (And.intro (by simp [hb]; omega) (And.intro ?_ (And.intro ?_ ?_)))))
  · rw [e2]
    show (5 + k + 3) * 40 ≤ _
    omega
  · rw [e2]
    show 5 + k + 3 ≤ _
    omega
  rw [wrap_i64 ((R : Int) + 1) (by omega) (by omega), e2]
  rw [show k + 8 = 5 + k + 3 by omega, wholeZ, List.map_append, List.map_append] at hK
  exact ⟨3, [0, 1], _, cv (.slc 1 0 (5 + k + 3) none true), rfl, rfl, by decide, by decide, rfl, rfl, rfl, rfl, rfl, hK⟩

theorem awaitN {p c : Nat} {a b : Int} (ha : a = p) (hb : b = c) (hp : p ≤ 1000000) (hK : K (cv (.slc 0 0 5 none true)) [] [.rows false 5 ((awI p c).map rowIns)]) : Does Tryz.prog 103 [i64 a, i64 b] [] K := by
  subst ha hb
  exact await p c (by omega) hK

theorem tellN {c n : Nat} {a b : Int} (ha : a = c) (hb : b = n) (hK : K (cv (.slc 0 0 2 none true)) [] [.rows false 5 ((tlI c n).map rowIns)]) : Does Tryz.prog 104 [i64 a, i64 b] [] K := by
  subst ha hb
  exact tell c n hK

theorem centralBody {n : Nat} (id : Nat) (hn : 1 ≤ n ∧ n ≤ 16) (hK : K (cv (.slc 0 0 12 none true)) [] [.rows false 5 ((bodyP (centralP n)).map rowIns)]) : Does Tryz.prog 82 [i64 n, i64 id] [] K := by
  refine Does.keep 0 rfl ?_
  refine does Tryz.func82 rfl (by decide) ?_
  change Does Tryz.prog 103 _ _ _
  refine Does.alone 1 (awaitN (p := 7) (c := 1) rfl rfl (by decide) ?_)
  refine And.intro (Nat.le_of_ble_eq_true rfl) (Or.inl (And.intro rfl (And.intro rfl (And.intro (Nat.le_of_ble_eq_true rfl) (And.intro (Nat.le_of_ble_eq_true rfl) ?_)))))
  refine And.intro (Nat.le_of_ble_eq_true rfl) (Or.inl (And.intro rfl (And.intro rfl (And.intro (Nat.le_of_ble_eq_true rfl) (And.intro (Nat.le_of_ble_eq_true rfl) ?_)))))
  change Does Tryz.prog 104 _ _ _
  refine Does.alone 3 (tellN (c := 1) (n := n) rfl rfl ?_)
  refine And.intro (Nat.le_of_ble_eq_true rfl) (Or.inl (And.intro rfl (And.intro rfl (And.intro (Nat.le_of_ble_eq_true rfl) (And.intro (Nat.le_of_ble_eq_true rfl) ?_)))))
  rw [wrap_i64 ((n : Int) - 1) (by omega) (by omega)]
  exact ⟨4, [0], [.rows false 5 ((bodyP (centralP n)).map rowIns)], cv (.slc 0 0 12 none true), rfl, rfl, by decide, by decide, rfl, rfl, rfl, rfl, rfl, hK⟩

theorem staticBody {n id : Nat} (hn : 1 ≤ n ∧ n ≤ 16) (hid : id < n) (hK : K (cv (.slc 0 0 (bodyN (staticP n id)).length none false)) [] [.rows false 5 ((bodyN (staticP n id)).map rowIns)]) : Does Tryz.prog 85 [i64 n, i64 id] [] K := by
  refine Does.keep 0 rfl ?_
  refine does Tryz.func85 rfl (by decide) ?_
  refine SS.nil 5 5 (by decide) rfl ?_
  have hlen : ∀ j, (bodyN (awL (2 * id + 1) j)).length = 5 * j := fun j => by rw [bodyN_len, awL_off]
  have w1 : IntKind.i64.wrap (IntKind.i64.wrap (2 * (id : Int)) + 1) = ((2 * id + 1 : Nat) : Int) := by
    rw [wrap_i64 (2 * (id : Int)) (by omega) (by omega), wrap_i64 (2 * (id : Int) + 1) (by omega) (by omega)]
    omega
  have w2 : IntKind.i64.wrap (IntKind.i64.wrap (2 * (id : Int)) + 2) = ((2 * id + 2 : Nat) : Int) := by
    rw [wrap_i64 (2 * (id : Int)) (by omega) (by omega), wrap_i64 (2 * (id : Int) + 2) (by omega) (by omega)]
    omega
  refine SS.loop (fun j : Nat => j ≤ min 2 (n - (2 * id + 1))) (fun j => [(0, i64 n), (1, i64 id), (5, cv (.slc 0 0 (5 * j) none false)), (6, i64 ((2 * id + 1 + j : Nat) : Int))]) (fun j => [.rows false 5 ((bodyN (awL (2 * id + 1) j)).map rowIns)]) (fun j => 2 - j) [0]
    (At.mk' [0, 1, 5, 6] 0 (Nat.zero_le _) ⟨by rw [w1]; rfl, rfl⟩ rfl rfl (by simp) (by simp) (by simp)) ?_
  intro j hj
  change j ≤ min 2 (n - (2 * id + 1)) at hj
  have wj : IntKind.i64.wrap (((2 * id + 1 + j : Nat) : Int) + 1) = ((2 * id + 1 + (j + 1) : Nat) : Int) := by
    rw [wrap_i64 _ (by omega) (by omega)]
    omega
  have w5 : IntKind.i64.wrap (5 + ((5 * j : Nat) : Int)) = ((5 + 5 * j : Nat) : Int) := by
    rw [wrap_i64 _ (by omega) (by omega)]
    omega
  refine S_r ?_
  refine brc_intro (fun h1 => brc_intro (fun h2 => ?_) (fun h2 => ?_)) (fun h1 => ?_)
  · have h1 : ((2 * id + 1 + j : Nat) : Int) ≤ IntKind.i64.wrap (IntKind.i64.wrap (2 * (id : Int)) + 2) := of_decide_eq_true h1
    have h2 : ((2 * id + 1 + j : Nat) : Int) < n := of_decide_eq_true h2
    rw [w2] at h1
    change Does Tryz.prog 103 _ _ _
    refine Does.alone 1 (awaitN w5 rfl (by omega) ?_)
    refine And.intro (Nat.le_of_ble_eq_true rfl) (Or.inl (And.intro rfl (And.intro (by simp [hlen]) (And.intro (by show (5 * j + 5) * 40 ≤ _; omega) (And.intro (by show 5 * j + 5 ≤ _; omega) ?_)))))
    refine At.mk' [0, 1, 5, 6] (j + 1) ⟨by show j + 1 ≤ min 2 (n - (2 * id + 1)); omega, by show 2 - (j + 1) < 2 - j; omega⟩ ⟨by rw [wj]; rfl, rfl⟩ ?_ rfl (by simp) (by simp) (by decide)
    rw [awL_succ, bodyN_snoc, hlen, List.map_append]
    rfl
  all_goals
    have hje : j = min 2 (n - (2 * id + 1)) := by
      first
      | (have h2 : ¬ ((2 * id + 1 + j : Nat) : Int) < n := of_decide_eq_false h2
         omega)
      | (have h1 : ¬ ((2 * id + 1 + j : Nat) : Int) ≤ IntKind.i64.wrap (IntKind.i64.wrap (2 * (id : Int)) + 2) := of_decide_eq_false h1
         rw [w2] at h1
         omega)
    have hj2 : j ≤ 2 := by omega
    refine brc_intro (fun h3 => ?_) (fun h3 => ?_)
    · have h3 : id = 0 := by
        have : (id : Int) = 0 := by simpa using h3
        omega
      rw [staticP, if_pos h3, ← hje, bodyN_snoc, List.length_append, List.map_append, hlen] at hK
      change Does Tryz.prog 104 _ _ _
      refine Does.alone 1 (tellN (c := n) (n := n) rfl rfl ?_)
      refine And.intro (Nat.le_of_ble_eq_true rfl) (Or.inl (And.intro rfl (And.intro (by simp [hlen]) (And.intro (by show (5 * j + 2) * 40 ≤ _; omega) (And.intro (by show 5 * j + 2 ≤ _; omega) ?_)))))
      exact ⟨2, [0], [.rows false 5 ((bodyN (awL (2 * id + 1) j)).map rowIns ++ (tlI n n).map rowIns)], cv (.slc 0 0 (5 * j + 2) none false), rfl, rfl, by decide, by decide, rfl, rfl, rfl, rfl, rfl, hK⟩
    · have h3 : id ≠ 0 := by
        have : (id : Int) ≠ 0 := by simpa using h3
        omega
      rw [staticP, if_neg h3, ← hje, show awL (2 * id + 1) j ++ [Pc.tl id 1, Pc.aw n] = (awL (2 * id + 1) j ++ [Pc.tl id 1]) ++ [Pc.aw n] by simp, bodyN_snoc, bodyN_snoc, List.length_append, List.length_append, List.map_append, List.map_append, hlen] at hK
      have w6 : IntKind.i64.wrap (5 + ((5 * j + 2 : Nat) : Int)) = ((5 + (5 * j + 2) : Nat) : Int) := by
        rw [wrap_i64 _ (by omega) (by omega)]
        omega
      change Does Tryz.prog 104 _ _ _
      refine Does.alone 1 (tellN (c := id) (n := 1) rfl rfl ?_)
      refine And.intro (Nat.le_of_ble_eq_true rfl) (Or.inl (And.intro rfl (And.intro (by simp [hlen]) (And.intro (by show (5 * j + 2) * 40 ≤ _; omega) (And.intro (by show 5 * j + 2 ≤ _; omega) ?_)))))
      change Does Tryz.prog 103 _ _ _
      refine Does.alone 2 (awaitN w6 (c := n) rfl (by omega) ?_)
      refine And.intro (Nat.le_of_ble_eq_true rfl) (Or.inl (And.intro rfl (And.intro (by simp [hlen]) (And.intro (by show (5 * j + 2 + 5) * 40 ≤ _; omega) (And.intro (by show 5 * j + 2 + 5 ≤ _; omega) ?_)))))
      exact ⟨3, [0], [.rows false 5 ((bodyN (awL (2 * id + 1) j)).map rowIns ++ (tlI id 1).map rowIns ++ (awI (5 + (5 * j + 2)) n).map rowIns)], cv (.slc 0 0 (5 * j + 2 + 5) none false), rfl, rfl, by decide, by decide, rfl, rfl, rfl, rfl, rfl, hK⟩

end
end Go.Mac
end

/- Barriers: a new one, of whatever kind can be made. -/
section
open Go Go.Proofs Go.Mac
set_option maxRecDepth 100000
namespace Go.Mac

abbrev kindsA : List CV := [.f (.str []), .nilfunc, .nilfunc,
  .f (.str [99, 101, 110, 116, 114, 97, 108]), .func 49 [], .func 50 [],
  .f (.str [99, 111, 109, 98, 105, 110, 101]), .func 51 [], .func 52 [],
  .f (.str [115, 116, 97, 116, 105, 99]), .func 53 [], .func 54 [],
  .f (.str [115, 112, 114, 101, 97, 100]), .func 55 [], .func 56 [],
  .f (.str [116, 111, 117, 114, 110, 101, 121]), .func 57 [], .func 58 [],
  .f (.str [109, 99, 115]), .func 59 [], .func 60 []]

section
variable {K : AV → List Nat → List PO → Prop}

theorem danceKinds (h : K (.p (.agg kindsA)) [] []) : Does Tryz.prog 29 [] [] K := by
  refine does Tryz.func29 rfl (by decide) ?_
  exact h

theorem danceName {k : Int} (hk : 1 ≤ k ∧ k ≤ 6) (h : ∀ s, K (.tup [.c (.f (.str s)), .c .niliface]) [] []) : Does Tryz.prog 28 [i64 k] [] K := by
  refine does Tryz.func28 rfl (by decide) ?_
  refine brc_intro (fun h => ?_) (fun _ => ?_)
  · have := of_decide_eq_true h; omega
  refine brc_intro (fun h => ?_) (fun _ => ?_)
  · have : k ≥ 7 := of_decide_eq_true h
    omega
  change Does Tryz.prog 29 _ _ _
  refine Does.alone 0 (danceKinds ?_)
  have hk6 : k = 1 ∨ k = 2 ∨ k = 3 ∨ k = 4 ∨ k = 5 ∨ k = 6 := by omega
  rcases hk6 with rfl | rfl | rfl | rfl | rfl | rfl
  all_goals
    refine And.intro (by decide) (And.intro (by decide) (Exists.intro _ (And.intro rfl ?_)))
    exact h _

/-- How a kind's cells are counted, and its programs made. -/
def cellsF (k : Int) : FuncId := if k = 1 then 49 else if k = 2 then 51 else if k = 3 then 53 else if k = 4 then 55 else if k = 5 then 57 else 59
def codeF (k : Int) : FuncId := if k = 1 then 50 else if k = 2 then 52 else if k = 3 then 54 else if k = 4 then 56 else if k = 5 then 58 else 60

theorem danceCells {k : Int} {n c : Nat} (hk : 1 ≤ k ∧ k ≤ 6) (hc : ∀ K : AV → List Nat → List PO → Prop, K (.tup [.c (.f (.int .i64 c)), okP]) [] [] → Does Tryz.prog (cellsF k) [i64 n] [] K) (h : K (.tup [.c (.f (.int .i64 c)), okP]) [] []) : Does Tryz.prog 9 [i64 k, i64 n] [] K := by
  refine does Tryz.func9 rfl (by decide) ?_
  change Does Tryz.prog 28 _ _ _
  refine Does.alone 0 (danceName hk fun s => ?_)
  change Does Tryz.prog 29 _ _ _
  refine Does.alone 0 (danceKinds ?_)
  have hk6 : k = 1 ∨ k = 2 ∨ k = 3 ∨ k = 4 ∨ k = 5 ∨ k = 6 := by omega
  rcases hk6 with rfl | rfl | rfl | rfl | rfl | rfl
  all_goals
    refine And.intro (by decide) (And.intro (by decide) (Exists.intro _ (And.intro rfl ?_)))
    exact hc _ h

theorem danceCode {k : Int} {n id R l : Nat} {p : List InsZ} (hk : 1 ≤ k ∧ k ≤ 6) (hc : ∀ K : AV → List Nat → List PO → Prop, K (.tup [.c (.slc 0 0 l none true), okP]) [] [.rows false 5 (p.map rowIns)] → Does Tryz.prog (codeF k) [i64 n, i64 id, i64 R] [] K)
    (h : K (.tup [.c (.slc 0 0 l none true), okP]) [] [.rows false 5 (p.map rowIns)]) : Does Tryz.prog 10 [i64 k, i64 n, i64 id, i64 R] [] K := by
  refine does Tryz.func10 rfl (by decide) ?_
  change Does Tryz.prog 28 _ _ _
  refine Does.alone 0 (danceName hk fun s => ?_)
  change Does Tryz.prog 29 _ _ _
  refine Does.alone 0 (danceKinds ?_)
  have hk6 : k = 1 ∨ k = 2 ∨ k = 3 ∨ k = 4 ∨ k = 5 ∨ k = 6 := by omega
  rcases hk6 with rfl | rfl | rfl | rfl | rfl | rfl
  all_goals
    refine And.intro (by decide) (And.intro (by decide) (Exists.intro _ (And.intro rfl ?_)))
    exact hc _ h

end

/-- What it takes to make a kind: how many cells there are, and what each party does. -/
structure KindOk (k : Int) (n R nc : Nat) (ps : List (List InsZ)) : Prop where
  k6 : 1 ≤ k ∧ k ≤ 6
  n16 : 1 ≤ n ∧ n ≤ 16
  len : ps.length = n
  nc300 : nc ≤ 300
  right : ∀ p ∈ ps, rightZ p nc = true
  cells : ∀ K : AV → List Nat → List PO → Prop, K (.tup [.c (.f (.int .i64 nc)), okP]) [] [] → Does Tryz.prog (cellsF k) [i64 n] [] K
  code : ∀ (id : Nat) (p : List InsZ), ps[id]? = some p → ∀ K : AV → List Nat → List PO → Prop, K (.tup [.c (.slc 0 0 p.length none true), okP]) [] [.rows false 5 (p.map rowIns)] → Does Tryz.prog (codeF k) [i64 n, i64 id, i64 R] [] K

section
variable {K : AV → List Nat → List PO → Prop}

theorem danceNew {k : Int} {n R nc : Nat} {ps : List (List InsZ)} (hk : KindOk k n R nc ps) (h : ∀ v, okV v → WF (mz0 ps (List.replicate nc 0)) → K (.tup [.c (.ptr 0 0), okP]) [] (machS 0 (mz0 ps (List.replicate nc 0)) v)) :
    Does Tryz.prog 22 [i64 k, i64 n, i64 R] [] K := by
  have hps := hk.len
  have hnc := hk.nc300
  obtain ⟨hn1, hn⟩ := hk.n16
  refine Does.keep 0 rfl ?_
  refine does Tryz.func22 rfl (by decide) ?_
  change Does Tryz.prog 9 _ _ _
  refine Does.alone 0 (danceCells hk.k6 hk.cells ?_)
  refine SS.nil2 10 5 rfl ?_
  refine SS.loop (fun i : Nat => i ≤ n) (fun i => [(0, i64 k), (1, i64 n), (2, i64 R), (8, i64 nc), (10, cv (.slc 0 0 i none false)), (23, i64 n), (24, i64 i)])
    (fun i => [.rows2 false 5 ((ps.take i).map fun p => p.map rowIns)]) (fun i => n - i) [0, 1, 2, 3]
    (At.mk' [0, 1, 2, 8, 10, 23, 24] 0 (by simp) ⟨rfl, rfl⟩ rfl rfl (by simp) (by simp) (by simp)) ?_
  intro i hi
  change i ≤ n at hi
  refine S_r ?_
  refine brc_intro (fun hlt => ?_) (fun hlt => ?_)
  · have hlt : i < n := by
      have := of_decide_eq_true hlt
      have : (i : Int) < (n : Int) := this
      omega
    obtain ⟨p, hp⟩ : ∃ p, ps[i]? = some p := ⟨_, List.getElem?_eq_getElem (by omega)⟩
    have hrp := hk.right p (List.mem_of_getElem? hp)
    have hpl : p.length ≤ 600 := by
      simp only [rightZ, Bool.and_eq_true, decide_eq_true_eq] at hrp
      exact hrp.1.1.2.2
    refine SS.inlR ?_
    change Does Tryz.prog 10 _ _ _
    refine Does.alone 1 (danceCode hk.k6 (hk.code i p hp) ?_)
    refine And.intro (by simp) (And.intro rfl (And.intro (by simp; omega) (at2 (by show (i + 1) * 24 ≤ _; omega) (by omega) ?_)))
    refine At.mk' [0, 1, 2, 8, 10, 23, 24] (i + 1) ⟨hlt, by omega⟩ ⟨?_, rfl⟩ ?_ rfl (by simp) (by simp) (by decide)
    · rw [wrap_i64 (i + 1) (by omega) (by omega)]
      rfl
    · have e : (ps.take (i + 1)).map (fun p => p.map rowIns) = (ps.take i).map (fun p => p.map rowIns) ++ [p.map rowIns] := by
        rw [List.take_add_one, hp, List.map_append]
        rfl
      rw [e]
      rfl
  · have hlt : ¬ (i : Int) < (n : Int) := of_decide_eq_false hlt
    obtain rfl : n = i := by omega
    rw [show ps.take n = ps from List.take_of_length_le (by omega)]
    have w0 : WF (mz0 ps (List.replicate nc 0)) := mz0_wf (by omega) (by rw [List.length_replicate]; exact hnc) (by rw [List.length_replicate]; exact hk.right) fun x hx => by rw [(List.mem_replicate.1 hx).2]; omega
    refine at2 (by omega) (by omega) (at2 (by show ((8 : Nat) : Int) * (nc : Int) ≤ _; omega) (by omega) ?_)
    change Does Tryz.prog 46 _ _ _
    have hwl : (List.replicate nc (0 : Int)).length = nc := List.length_replicate
    have hrw : (List.replicate nc (0 : Int)).map rowU = List.replicate nc [FC.int .u64 0] := by rw [List.map_replicate]
    have hright := hk.right
    rw [Int.toNat_natCast, ← hrw]
    generalize List.replicate nc (0 : Int) = ws at h w0 hwl ⊢
    clear hk hrw
    subst hwl hps
    refine Does.on 2 [0, 1] _ _ (coreNew (ps := ps) (ws := ws) (n := ps.length) (nc := ws.length) rfl rfl hn hnc hright fun v hv => ?_)
    exact ⟨11, [2, 3, 4, 5, 6, 7, 8, 9, 10], machS 0 (mz0 ps ws) v, .tup [.c (.ptr 0 0), okP], rfl, rfl, by decide, by decide, rfl, rfl, rfl, rfl, rfl, h v hv w0⟩

end
end Go.Mac
end

/- Barriers: the programs of Mcs, Spread and Tourney, walked. -/
section
open Go Go.Proofs Go.Mac
set_option maxRecDepth 100000
namespace Go.Mac

section
variable {K : AV → List Nat → List PO → Prop}

set_option maxHeartbeats 1000000 in
theorem mcsBody {n id : Nat} (hn : 1 ≤ n ∧ n ≤ 16) (hid : id < n) (hK : K (cv (.slc 0 0 (bodyN (mcsP n id)).length none false)) [] [.rows false 5 ((bodyN (mcsP n id)).map rowIns)]) : Does Tryz.prog 89 [i64 n, i64 id] [] K := by
  refine Does.keep 0 rfl ?_
  refine does Tryz.func89 rfl (by decide) ?_
  refine SS.nil 5 5 (by decide) rfl ?_
  have hlen : ∀ j, (bodyN (awL (4 * id + 1) j)).length = 5 * j := fun j => by rw [bodyN_len, awL_off]
  have w1 : IntKind.i64.wrap (IntKind.i64.wrap (4 * (id : Int)) + 1) = ((4 * id + 1 : Nat) : Int) := by
    rw [wrap_i64 (4 * (id : Int)) (by omega) (by omega), wrap_i64 (4 * (id : Int) + 1) (by omega) (by omega)]
    omega
  have w2 : IntKind.i64.wrap (IntKind.i64.wrap (4 * (id : Int)) + 4) = ((4 * id + 4 : Nat) : Int) := by
    rw [wrap_i64 (4 * (id : Int)) (by omega) (by omega), wrap_i64 (4 * (id : Int) + 4) (by omega) (by omega)]
    omega
  have v1 : IntKind.i64.wrap (IntKind.i64.wrap (2 * (id : Int)) + 1) = ((2 * id + 1 : Nat) : Int) := by
    rw [wrap_i64 (2 * (id : Int)) (by omega) (by omega), wrap_i64 (2 * (id : Int) + 1) (by omega) (by omega)]
    omega
  have v2 : IntKind.i64.wrap (IntKind.i64.wrap (2 * (id : Int)) + 2) = ((2 * id + 2 : Nat) : Int) := by
    rw [wrap_i64 (2 * (id : Int)) (by omega) (by omega), wrap_i64 (2 * (id : Int) + 2) (by omega) (by omega)]
    omega
  refine SS.loop (fun j : Nat => j ≤ min 4 (n - (4 * id + 1))) (fun j => [(0, i64 n), (1, i64 id), (5, cv (.slc 0 0 (5 * j) none false)), (6, i64 ((4 * id + 1 + j : Nat) : Int))]) (fun j => [.rows false 5 ((bodyN (awL (4 * id + 1) j)).map rowIns)]) (fun j => 4 - j) [0]
    (At.mk' [0, 1, 5, 6] 0 (Nat.zero_le _) ⟨by rw [w1]; rfl, rfl⟩ rfl rfl (by simp) (by simp) (by simp)) ?_
  intro j hj
  change j ≤ min 4 (n - (4 * id + 1)) at hj
  have wj : IntKind.i64.wrap (((4 * id + 1 + j : Nat) : Int) + 1) = ((4 * id + 1 + (j + 1) : Nat) : Int) := by
    rw [wrap_i64 _ (by omega) (by omega)]
    omega
  have w5 : IntKind.i64.wrap (5 + ((5 * j : Nat) : Int)) = ((5 + 5 * j : Nat) : Int) := by
    rw [wrap_i64 _ (by omega) (by omega)]
    omega
  have w6 : IntKind.i64.wrap (5 + ((5 * j + 2 : Nat) : Int)) = ((5 + (5 * j + 2) : Nat) : Int) := by
    rw [wrap_i64 _ (by omega) (by omega)]
    omega
  have w7 : IntKind.i64.wrap ((n : Int) + id) = ((n + id : Nat) : Int) := by
    rw [wrap_i64 _ (by omega) (by omega)]
    omega
  refine S_r ?_
  refine brc_intro (fun h1 => brc_intro (fun h2 => ?_) (fun h2 => ?_)) (fun h1 => ?_)
  · have h1 : ((4 * id + 1 + j : Nat) : Int) ≤ IntKind.i64.wrap (IntKind.i64.wrap (4 * (id : Int)) + 4) := of_decide_eq_true h1
    have h2 : ((4 * id + 1 + j : Nat) : Int) < n := of_decide_eq_true h2
    rw [w2] at h1
    change Does Tryz.prog 103 _ _ _
    refine Does.alone 1 (awaitN w5 rfl (by omega) ?_)
    refine And.intro (Nat.le_of_ble_eq_true rfl) (Or.inl (And.intro rfl (And.intro (by simp [hlen]) (And.intro (by show (5 * j + 5) * 40 ≤ _; omega) (And.intro (by show 5 * j + 5 ≤ _; omega) ?_)))))
    refine At.mk' [0, 1, 5, 6] (j + 1) ⟨by show j + 1 ≤ min 4 (n - (4 * id + 1)); omega, by show 4 - (j + 1) < 4 - j; omega⟩ ⟨by rw [wj]; rfl, rfl⟩ ?_ rfl (by simp) (by simp) (by decide)
    rw [awL_succ, bodyN_snoc, hlen, List.map_append]
    rfl
  all_goals
    have hje : j = min 4 (n - (4 * id + 1)) := by
      first
      | (have h2 : ¬ ((4 * id + 1 + j : Nat) : Int) < n := of_decide_eq_false h2
         omega)
      | (have h1 : ¬ ((4 * id + 1 + j : Nat) : Int) ≤ IntKind.i64.wrap (IntKind.i64.wrap (4 * (id : Int)) + 4) := of_decide_eq_false h1
         rw [w2] at h1
         omega)
    have hj4 : j ≤ 4 := by omega
    refine brc_intro (fun h3 => ?_) (fun h3 => ?_)
    · have h3 : 0 < id := by
        have : (id : Int) > 0 := of_decide_eq_true h3
        omega
      have hB : mcsP n id = (awL (4 * id + 1) j ++ [Pc.tl id 1] ++ [Pc.aw (n + id)]) ++ tlL (n + (2 * id + 1)) (min 2 (n - (2 * id + 1))) := by
        rw [mcsP, if_pos h3, ← hje]
        simp
      have hl7 : (bodyN (awL (4 * id + 1) j ++ [Pc.tl id 1] ++ [Pc.aw (n + id)])).length = 5 * j + 7 := by
        rw [bodyN_len, offP_app, offP_app, awL_off]
        rfl
      have hr7 : (bodyN (awL (4 * id + 1) j)).map rowIns ++ (tlI id 1).map rowIns ++ (awI (5 + (5 * j + 2)) (n + id)).map rowIns = (bodyN (awL (4 * id + 1) j ++ [Pc.tl id 1] ++ [Pc.aw (n + id)])).map rowIns := by
        rw [bodyN_snoc, bodyN_snoc, List.length_append, hlen, List.map_append, List.map_append]
        rfl
      rw [hB] at hK
      generalize hBB : awL (4 * id + 1) j ++ [Pc.tl id 1] ++ [Pc.aw (n + id)] = B at *
      have hl2 : ∀ i, (bodyN (B ++ tlL (n + (2 * id + 1)) i)).length = 5 * j + 7 + 2 * i := fun i => by rw [bodyN_len, offP_app, tlL_off, ← bodyN_len, hl7]
      change Does Tryz.prog 104 _ _ _
      refine Does.alone 1 (tellN (c := id) (n := 1) rfl rfl ?_)
      refine And.intro (Nat.le_of_ble_eq_true rfl) (Or.inl (And.intro rfl (And.intro (by simp [hlen]) (And.intro (by show (5 * j + 2) * 40 ≤ _; omega) (And.intro (by show 5 * j + 2 ≤ _; omega) ?_)))))
      change Does Tryz.prog 103 _ _ _
      refine Does.alone 2 (awaitN w6 w7 (by omega) ?_)
      refine And.intro (Nat.le_of_ble_eq_true rfl) (Or.inl (And.intro rfl (And.intro (by simp [hlen]) (And.intro (by show (5 * j + 2 + 5) * 40 ≤ _; omega) (And.intro (by show 5 * j + 2 + 5 ≤ _; omega) ?_)))))
      refine SS.loop (fun i : Nat => i ≤ min 2 (n - (2 * id + 1))) (fun i => [(0, i64 n), (1, i64 id), (5, cv (.slc 0 0 (5 * j + 7 + 2 * i) none false)), (7, i64 ((2 * id + 1 + i : Nat) : Int))]) (fun i => [.rows false 5 ((bodyN (B ++ tlL (n + (2 * id + 1)) i)).map rowIns)]) (fun i => 2 - i) [0]
        (At.mk' [0, 1, 5, 7] 0 (Nat.zero_le _) ⟨by rw [v1]; rfl, rfl⟩ ?_ rfl (by simp) (by simp) (by simp)) ?_
      · rw [show B ++ tlL (n + (2 * id + 1)) 0 = B from List.append_nil _, ← hr7]
        rfl
      intro i hi
      change i ≤ min 2 (n - (2 * id + 1)) at hi
      have vi : IntKind.i64.wrap (((2 * id + 1 + i : Nat) : Int) + 1) = ((2 * id + 1 + (i + 1) : Nat) : Int) := by
        rw [wrap_i64 _ (by omega) (by omega)]
        omega
      have vn : IntKind.i64.wrap ((n : Int) + ((2 * id + 1 + i : Nat) : Int)) = ((n + (2 * id + 1) + i : Nat) : Int) := by
        rw [wrap_i64 _ (by omega) (by omega)]
        omega
      refine S_r ?_
      refine brc_intro (fun h4 => brc_intro (fun h5 => ?_) (fun h5 => ?_)) (fun h4 => ?_)
      · have h4 : ((2 * id + 1 + i : Nat) : Int) ≤ IntKind.i64.wrap (IntKind.i64.wrap (2 * (id : Int)) + 2) := of_decide_eq_true h4
        have h5 : ((2 * id + 1 + i : Nat) : Int) < n := of_decide_eq_true h5
        rw [v2] at h4
        change Does Tryz.prog 104 _ _ _
        refine Does.alone 1 (tellN (n := 1) vn rfl ?_)
        refine And.intro (Nat.le_of_ble_eq_true rfl) (Or.inl (And.intro rfl (And.intro (by simp [hl2]) (And.intro (by show (5 * j + 7 + 2 * i + 2) * 40 ≤ _; omega) (And.intro (by show 5 * j + 7 + 2 * i + 2 ≤ _; omega) ?_)))))
        refine At.mk' [0, 1, 5, 7] (i + 1) ⟨by show i + 1 ≤ min 2 (n - (2 * id + 1)); omega, by show 2 - (i + 1) < 2 - i; omega⟩ ⟨by rw [vi]; rfl, rfl⟩ ?_ rfl (by simp) (by simp) (by decide)
        rw [tlL_succ, ← List.append_assoc, bodyN_snoc, hl2, List.map_append]
        rfl
      all_goals
        have hie : i = min 2 (n - (2 * id + 1)) := by
          first
          | (have h5 : ¬ ((2 * id + 1 + i : Nat) : Int) < n := of_decide_eq_false h5
             omega)
          | (have h4 : ¬ ((2 * id + 1 + i : Nat) : Int) ≤ IntKind.i64.wrap (IntKind.i64.wrap (2 * (id : Int)) + 2) := of_decide_eq_false h4
             rw [v2] at h4
             omega)
        rw [← hie, hl2] at hK
        exact ⟨1, [0], [.rows false 5 ((bodyN (B ++ tlL (n + (2 * id + 1)) i)).map rowIns)], cv (.slc 0 0 (5 * j + 7 + 2 * i) none false), rfl, rfl, by decide, by decide, rfl, rfl, rfl, rfl, rfl, hK⟩
    · have h3 : id = 0 := by
        have : ¬ (id : Int) > 0 := of_decide_eq_false h3
        omega
      have hB : mcsP n id = awL (4 * id + 1) j ++ tlL (n + (2 * id + 1)) (min 2 (n - (2 * id + 1))) := by
        rw [mcsP, if_neg (by omega), ← hje]
        rfl
      rw [hB] at hK
      have hl2 : ∀ i, (bodyN (awL (4 * id + 1) j ++ tlL (n + (2 * id + 1)) i)).length = 5 * j + 2 * i := fun i => by rw [bodyN_len, offP_app, tlL_off, awL_off]
      refine SS.loop (fun i : Nat => i ≤ min 2 (n - (2 * id + 1))) (fun i => [(0, i64 n), (1, i64 id), (5, cv (.slc 0 0 (5 * j + 2 * i) none false)), (7, i64 ((2 * id + 1 + i : Nat) : Int))]) (fun i => [.rows false 5 ((bodyN (awL (4 * id + 1) j ++ tlL (n + (2 * id + 1)) i)).map rowIns)]) (fun i => 2 - i) [0]
        (At.mk' [0, 1, 5, 7] 0 (Nat.zero_le _) ⟨by rw [v1]; rfl, rfl⟩ ?_ rfl (by simp) (by simp) (by simp)) ?_
      · rw [show awL (4 * id + 1) j ++ tlL (n + (2 * id + 1)) 0 = awL (4 * id + 1) j from List.append_nil _]
        rfl
      intro i hi
      change i ≤ min 2 (n - (2 * id + 1)) at hi
      have vi : IntKind.i64.wrap (((2 * id + 1 + i : Nat) : Int) + 1) = ((2 * id + 1 + (i + 1) : Nat) : Int) := by
        rw [wrap_i64 _ (by omega) (by omega)]
        omega
      have vn : IntKind.i64.wrap ((n : Int) + ((2 * id + 1 + i : Nat) : Int)) = ((n + (2 * id + 1) + i : Nat) : Int) := by
        rw [wrap_i64 _ (by omega) (by omega)]
        omega
      refine S_r ?_
      refine brc_intro (fun h4 => brc_intro (fun h5 => ?_) (fun h5 => ?_)) (fun h4 => ?_)
      · have h4 : ((2 * id + 1 + i : Nat) : Int) ≤ IntKind.i64.wrap (IntKind.i64.wrap (2 * (id : Int)) + 2) := of_decide_eq_true h4
        have h5 : ((2 * id + 1 + i : Nat) : Int) < n := of_decide_eq_true h5
        rw [v2] at h4
        change Does Tryz.prog 104 _ _ _
        refine Does.alone 1 (tellN (n := 1) vn rfl ?_)
        refine And.intro (Nat.le_of_ble_eq_true rfl) (Or.inl (And.intro rfl (And.intro (by simp [hl2]) (And.intro (by show (5 * j + 2 * i + 2) * 40 ≤ _; omega) (And.intro (by show 5 * j + 2 * i + 2 ≤ _; omega) ?_)))))
        refine At.mk' [0, 1, 5, 7] (i + 1) ⟨by show i + 1 ≤ min 2 (n - (2 * id + 1)); omega, by show 2 - (i + 1) < 2 - i; omega⟩ ⟨by rw [vi]; rfl, rfl⟩ ?_ rfl (by simp) (by simp) (by decide)
        rw [tlL_succ, ← List.append_assoc, bodyN_snoc, hl2, List.map_append]
        rfl
      all_goals
        have hie : i = min 2 (n - (2 * id + 1)) := by
          first
          | (have h5 : ¬ ((2 * id + 1 + i : Nat) : Int) < n := of_decide_eq_false h5
             omega)
          | (have h4 : ¬ ((2 * id + 1 + i : Nat) : Int) ≤ IntKind.i64.wrap (IntKind.i64.wrap (2 * (id : Int)) + 2) := of_decide_eq_false h4
             rw [v2] at h4
             omega)
        rw [← hie, hl2] at hK
        exact ⟨1, [0], [.rows false 5 ((bodyN (awL (4 * id + 1) j ++ tlL (n + (2 * id + 1)) i)).map rowIns)], cv (.slc 0 0 (5 * j + 2 * i) none false), rfl, rfl, by decide, by decide, rfl, rfl, rfl, rfl, rfl, hK⟩

end
end Go.Mac
end

/- Barriers: each kind's programs, walked. -/
section
open Go Go.Proofs Go.Mac
set_option maxRecDepth 100000
namespace Go.Mac

theorem whole_len (R : Nat) (b : List InsZ) : (wholeZ R b).length = b.length + 8 := by rw [wholeZ, List.length_append, List.length_append]; simp; omega

section
variable {K : AV → List Nat → List PO → Prop}

theorem centralCode {n id R : Nat} (hn : 1 ≤ n ∧ n ≤ 16) (hid : id < n) (hR : R ≤ 20) (hb : (bodyP (centralP n)).length ≤ 10000) (hK : K (.tup [.c (.slc 0 0 (wholeZ R (bodyP (centralP n))).length none true), okP]) [] [.rows false 5 ((wholeZ R (bodyP (centralP n))).map rowIns)]) :
    Does Tryz.prog 50 [i64 n, i64 id, i64 R] [] K := by
  rw [whole_len] at hK
  refine Does.keep 0 rfl ?_
  refine does Tryz.func50 rfl (by decide) ?_
  change Does Tryz.prog 80 _ _ _
  refine Does.alone 0 (partCheck hn hid hR ?_)
  change Does Tryz.prog 82 _ _ _
  refine Does.alone 0 (centralBody id hn ?_)
  change Does Tryz.prog 81 _ _ _
  refine Does.on 1 [0] _ _ (partWhole (b := bodyP (centralP n)) (k := 12) (R := R) rfl hb (by omega) ?_)
  exact ⟨2, [1], [.rows false 5 ((wholeZ R (bodyP (centralP n))).map rowIns)], .tup [.c (.slc 0 0 ((bodyP (centralP n)).length + 8) none true), okP], rfl, rfl, by decide, by decide, rfl, rfl, rfl, rfl, rfl, hK⟩

theorem staticCode {n id R : Nat} (hn : 1 ≤ n ∧ n ≤ 16) (hid : id < n) (hR : R ≤ 20) (hb : (bodyN (staticP n id)).length ≤ 10000) (hK : K (.tup [.c (.slc 0 0 (wholeZ R (bodyN (staticP n id))).length none true), okP]) [] [.rows false 5 ((wholeZ R (bodyN (staticP n id))).map rowIns)]) :
    Does Tryz.prog 54 [i64 n, i64 id, i64 R] [] K := by
  rw [whole_len] at hK
  refine Does.keep 0 rfl ?_
  refine does Tryz.func54 rfl (by decide) ?_
  change Does Tryz.prog 80 _ _ _
  refine Does.alone 0 (partCheck hn hid hR ?_)
  change Does Tryz.prog 85 _ _ _
  refine Does.alone 0 (staticBody hn hid ?_)
  change Does Tryz.prog 81 _ _ _
  refine Does.on 1 [0] _ _ (partWhole (b := bodyN (staticP n id)) (k := (bodyN (staticP n id)).length) (R := R) rfl hb (by omega) ?_)
  exact ⟨2, [1], [.rows false 5 ((wholeZ R (bodyN (staticP n id))).map rowIns)], .tup [.c (.slc 0 0 ((bodyN (staticP n id)).length + 8) none true), okP], rfl, rfl, by decide, by decide, rfl, rfl, rfl, rfl, rfl, hK⟩

theorem mcsCode {n id R : Nat} (hn : 1 ≤ n ∧ n ≤ 16) (hid : id < n) (hR : R ≤ 20) (hb : (bodyN (mcsP n id)).length ≤ 10000) (hK : K (.tup [.c (.slc 0 0 (wholeZ R (bodyN (mcsP n id))).length none true), okP]) [] [.rows false 5 ((wholeZ R (bodyN (mcsP n id))).map rowIns)]) :
    Does Tryz.prog 60 [i64 n, i64 id, i64 R] [] K := by
  rw [whole_len] at hK
  refine Does.keep 0 rfl ?_
  refine does Tryz.func60 rfl (by decide) ?_
  change Does Tryz.prog 80 _ _ _
  refine Does.alone 0 (partCheck hn hid hR ?_)
  change Does Tryz.prog 89 _ _ _
  refine Does.alone 0 (mcsBody hn hid ?_)
  change Does Tryz.prog 81 _ _ _
  refine Does.on 1 [0] _ _ (partWhole (b := bodyN (mcsP n id)) (k := (bodyN (mcsP n id)).length) (R := R) rfl hb (by omega) ?_)
  exact ⟨2, [1], [.rows false 5 ((wholeZ R (bodyN (mcsP n id))).map rowIns)], .tup [.c (.slc 0 0 ((bodyN (mcsP n id)).length + 8) none true), okP], rfl, rfl, by decide, by decide, rfl, rfl, rfl, rfl, rfl, hK⟩

theorem centralCells {n : Nat} (hn : 1 ≤ n ∧ n ≤ 16) (hK : K (.tup [.c (.f (.int .i64 ((2 : Nat) : Int))), okP]) [] []) : Does Tryz.prog 49 [i64 n] [] K := by
  refine does Tryz.func49 rfl (by decide) ?_
  change Does Tryz.prog 80 _ _ _
  refine Does.alone 0 (partCheck (id := 0) (R := 0) hn (by omega) (by omega) ?_)
  exact hK

theorem staticCells {n : Nat} (hn : 1 ≤ n ∧ n ≤ 16) (hK : K (.tup [.c (.f (.int .i64 ((n + 1 : Nat) : Int))), okP]) [] []) : Does Tryz.prog 53 [i64 n] [] K := by
  rw [show ((n + 1 : Nat) : Int) = IntKind.i64.wrap ((n : Int) + 1) by rw [wrap_i64 _ (by omega) (by omega)]; omega] at hK
  refine does Tryz.func53 rfl (by decide) ?_
  change Does Tryz.prog 80 _ _ _
  refine Does.alone 0 (partCheck (id := 0) (R := 0) hn (by omega) (by omega) ?_)
  exact hK

theorem mcsCells {n : Nat} (hn : 1 ≤ n ∧ n ≤ 16) (hK : K (.tup [.c (.f (.int .i64 ((2 * n : Nat) : Int))), okP]) [] []) : Does Tryz.prog 59 [i64 n] [] K := by
  rw [show ((2 * n : Nat) : Int) = IntKind.i64.wrap (2 * (n : Int)) by rw [wrap_i64 _ (by omega) (by omega)]; omega] at hK
  refine does Tryz.func59 rfl (by decide) ?_
  change Does Tryz.prog 80 _ _ _
  refine Does.alone 0 (partCheck (id := 0) (R := 0) hn (by omega) (by omega) ?_)
  exact hK

end
end Go.Mac
end
