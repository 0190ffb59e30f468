/- Many who look, or one who changes. -/
import Derived.Test.YtnkmddcadkcdcaaDoorQRwL
import Derived.Test.YtnkmddcadkcdcaaDoorQMapSet
open Go Go.Proofs Go.Mac
set_option maxRecDepth 100000
namespace Go.Mac

theorem rwFold_take {l : List ActZ} {i : Nat} {a : ActZ} (h : l[i]? = some a) : rwFold (l.take (i + 1)) = rwF (rwFold (l.take i)) a := by
  rw [List.take_add_one, h]
  exact rwFold_snoc _ _

theorem rwFold_none (l : List ActZ) : l.foldl rwF none = none := by
  induction l with
  | nil => rfl
  | cons a l ih => rw [List.foldl_cons]; exact ih

theorem rwFold_pre {l : List ActZ} {h : List Int × Int} (hl : rwFold l = some h) (i : Nat) : ∃ g, rwFold (l.take i) = some g := by
  cases hg : rwFold (l.take i) with
  | some g => exact ⟨g, rfl⟩
  | none =>
    exfalso
    have : rwFold l = (l.drop i).foldl rwF (rwFold (l.take i)) := by
      rw [rwFold, rwFold, ← List.foldl_append, List.take_append_drop]
    rw [hg, rwFold_none, hl] at this
    cases this

/-- What the loop carries. -/
structure LookS where
  i : Nat
  es : MapZ
  clk : Nat
  L : List Int
  w : Int

theorem rwApart (l : List (List Int)) (_hw : ∀ xs ∈ l, ∀ x ∈ xs, -9223372036854775808 ≤ x ∧ x ≤ 9223372036854775807) (hl : l.length ≤ 9223372036854775807) (hm : ∀ xs ∈ l, xs.length ≤ 9223372036854775807) (ms : List MoveZ) (dn : Bool) :
    Does Tryd.prog 12 [cv (.slc 0 0 l.length none false), cv (.slc 1 0 ms.length none false), bl dn] [.rows2 true 1 (l.map fun xs => xs.map rowZ), .rows true 2 (ms.map rowMove), rtH] fun v _ _ => v = bl true := by
  refine does Tryd.func12 rfl (by decide) ?_
  change Does Tryd.prog 44 _ _ _
  refine Does.alone 3 (shared ?_)
  refine brc_intro (fun _ => rfl) (fun h => ?_)
  have hms : ms.length ≤ 600 := by
    have := of_decide_eq_false h
    omega
  change Does Tryd.prog 45 _ _ _
  refine Does.on 3 [0] _ _ (lookers (l := l) rfl hl hm ?_)
  obtain ⟨hn, hfit, hl12, hr, hI⟩ := lookers_made l ms
  generalize lookersZ l = calls at hn hfit hl12 hr hI
  have hn8 : min l.length 8 ≤ 8 := by omega
  generalize min l.length 8 = n at hn hn8 hI
  generalize lsF (ownsL l) = ls at hI
  obtain ⟨z, hz⟩ : ∃ z, movesZ (mz0 (calls.map rwP) [0]) ms = z := ⟨_, rfl⟩
  rw [hz] at hI
  change Does Tryd.prog 24 _ _ _
  refine Does.on 5 [3, 4, 1] _ _ (made (ls := calls) (ps := calls.map rwP) (ws := [0]) (ms := ms) (f := 46) (n := n) (nc := 1) (ro := false) (ro2 := false) (ro3 := true) hn (by rw [List.length_map]; exact hn) rfl rfl (by omega) (by decide) (by omega) hr (by decide) (hz := hz) (fun i l p hl hp K' hK' => ?_) fun v hv hw => ?_)
  · obtain rfl : rwP l = p := by
      rw [List.getElem?_map, hl] at hp
      exact Option.some.inj hp
    exact rwCode' i i l hl (hl12 l (List.mem_of_getElem? hl)) (hfit l (List.mem_of_getElem? hl)) hK'
  clear hr hz
  refine brc_intro (fun _ => ?_) (fun _ => ?_)
  · change Does Tryd.prog 27 _ _ _
    refine Does.on 14 [5, 6, 7, 8, 9, 10, 11, 12, 13] _ _ (fairFinish (m := z) (v := v) hw hv fun v1 _ hv1 hw1 => ?_)
    obtain ⟨⟨gs, u, hJ⟩, _⟩ := rw_fin hI (by omega)
    generalize finish z = z1 at hw1 hJ
    have hws := hJ.sys.ws
    have hval := hJ.val
    have hexx := hJ.ex
    obtain ⟨Lz, wz, hfo⟩ := hJ.fo
    have hlk8 := rsum_const n 1 (fun t => rlk (ls t) (gs t)) fun s _ => rlk_le _ _
    have hfold := hfo.fold
    have hlen := hfo.len
    have hown := hfo.own
    clear hfo hJ
    have hal1 := hw1.al
    have hk1 := hw1.k
    change Does Tryd.prog 28 _ _ _
    refine Does.on 15 [5, 6, 7, 8, 9, 10, 11, 12, 13] _ _ (coreActs (m := z1) (v := v1) (by omega) ?_)
    refine SS.loop (fun p : LookS => p.i ≤ z1.al.length ∧ rwFold (z1.al.take p.i) = some (p.L, p.w) ∧ MSet p.es p.L) (fun p => [(8, cv (.ptr 5 0)), (9, cv (.map 14)), (10, i64 p.w), (33, cv (.slc 15 0 z1.al.length none false)), (34, i64 z1.al.length), (35, i64 p.i)])
      (fun p => [.rows2 true 1 (l.map fun xs => xs.map rowZ), .rows true 2 (ms.map rowMove), rtH, callsH false calls, .rows false 1 [rowU 0]] ++ machS 5 z1 v1 ++ [.mp 0 true p.es p.clk, .rows false 6 (z1.al.map rowAct)]) (fun p => z1.al.length - p.i) [3, 11, 12, 13]
      (At.mk' [8, 9, 10, 33, 34, 35] ⟨0, [], 0, [], -1⟩ ⟨Nat.zero_le _, rfl, MSet.nil⟩ ⟨rfl, rfl⟩ rfl rfl (by simp) (by simp) (by decide)) ?_
    rintro ⟨i, es, clk, L, w⟩ ⟨hi, hg, hms1⟩
    change i ≤ z1.al.length at hi
    change rwFold (z1.al.take i) = some (L, w) at hg
    change MSet es L at hms1
    refine S_r ?_
    refine brc_intro (fun hlt => ?_) (fun hlt => ?_)
    · have hlt2 : i < z1.al.length := by
        have := of_decide_eq_true hlt
        have : (i : Int) < (z1.al.length : Int) := this
        omega
      obtain ⟨a, ha⟩ : ∃ a, z1.al[i]? = some a := ⟨_, List.getElem?_eq_getElem hlt2⟩
      have hnx := rwFold_take ha
      obtain ⟨⟨L', w'⟩, hg'⟩ := rwFold_pre hfold (i + 1)
      rw [hg', hg, rwF] at hnx
      have wr : IntKind.i64.wrap ((i : Int) + 1) = ((i + 1 : Nat) : Int) := wrap_i64 _ (by omega) (by omega)
      have hgt := hms1.get a.t
      have hln := hms1.len
      refine SS.inlR ?_
      refine at2 (a := (0 : Int) ≤ (i : Int)) (b := (i : Int) < (z1.al.length : Int)) (by omega) (by omega) (rdA (rowAct a) (by simp [ha]) ?_)
      refine brc_intro (fun h9 => ?_) (fun h9 => ?_)
      · have h9 : a.o = 9 := by simpa using h9
        refine brc_intro (fun hxy => ?_) (fun hxy => ?_)
        · have hxy : a.x ≠ a.y := by simpa using hxy
          refine brc_intro (fun hy => ?_) (fun hy => ?_)
          · have hy : a.y = 4294967296 := by simpa using hy
            rw [if_pos ⟨h9, hxy, hy⟩] at hnx
            by_cases hbad : 0 ≤ w ∨ L ≠ []
            · rw [if_pos hbad] at hnx
              cases hnx
            rw [if_neg hbad] at hnx
            obtain ⟨rfl, rfl⟩ := Prod.mk.inj (Option.some.inj hnx)
            refine brc_intro (fun h => ?_) (fun _ => ?_)
            · exact absurd (.inl (of_decide_eq_true h)) hbad
            refine brc_intro (fun h => ?_) (fun _ => ?_)
            · have h := of_decide_eq_true h
              have h : (es.length : Int) > 0 := h
              exact absurd (.inr fun e => by rw [e] at hln; rw [hln] at h; exact absurd h (by decide)) hbad
            refine At.mk' [8, 9, 10, 33, 34, 35] ⟨i + 1, es, clk, L', a.t⟩ ⟨⟨hlt2, hg', hms1⟩, by show z1.al.length - (i + 1) < z1.al.length - i; omega⟩ ⟨?_, rfl⟩ rfl rfl (by simp) (by simp) (by decide)
            rw [wr]
          · have hy : a.y ≠ 4294967296 := by simpa using hy
            rw [if_neg (fun h => hy h.2.2), if_pos ⟨h9, hxy⟩] at hnx
            by_cases hbad : 0 ≤ w ∨ a.t ∈ L ∨ a.y ≠ a.x + 1 ∨ a.x < 0 ∨ 8 < a.x
            · rw [if_pos hbad] at hnx
              cases hnx
            rw [if_neg hbad] at hnx
            obtain ⟨rfl, rfl⟩ := Prod.mk.inj (Option.some.inj hnx)
            have hnot : a.t ∉ L := fun h => hbad (.inr (.inl h))
            rw [if_neg hnot] at hgt
            refine brc_intro (fun _ => ?_) (fun h => ?_)
            · refine brc_intro (fun _ => ?_) (fun h => ?_)
              · refine brc_intro (fun h => ?_) (fun _ => ?_)
                · exact absurd (.inl (of_decide_eq_true h)) hbad
                refine brc_intro (fun h => ?_) (fun _ => ?_)
                · have h : (mpGet es [a.t] != 0) = true := h
                  rw [hgt] at h
                  cases h
                refine brc_intro (fun h => ?_) (fun _ => ?_)
                · exfalso
                  have h : (a.y != IntKind.u64.wrap (a.x + 1)) = true := h
                  have e1 : a.y = a.x + 1 := Classical.byContradiction fun e => hbad (.inr (.inr (.inl e)))
                  have e2 : 0 ≤ a.x := Int.not_lt.1 fun e => hbad (.inr (.inr (.inr (.inl e))))
                  have e3 : a.x ≤ 8 := Int.not_lt.1 fun e => hbad (.inr (.inr (.inr (.inr e))))
                  rw [wrap_u64 _ (by omega) (by omega), e1] at h
                  simp at h
                refine At.mk' [8, 9, 10, 33, 34, 35] ⟨i + 1, mpPut es [a.t] 1 clk, mpClk es [a.t] clk, L ++ [a.t], w'⟩ ⟨⟨hlt2, hg', hms1.put hnot clk⟩, by show z1.al.length - (i + 1) < z1.al.length - i; omega⟩ ⟨?_, rfl⟩ rfl rfl (by simp) (by simp) (by decide)
                rw [wr]
              · exact absurd hxy (by simpa using h)
            · exact absurd h9 (by simpa using h)
        · have hxy : a.x = a.y := by simpa using hxy
          rw [if_neg (fun h => h.2.1 hxy), if_neg (fun h => h.2 hxy), if_neg (by omega), if_neg (by omega)] at hnx
          obtain ⟨rfl, rfl⟩ := Prod.mk.inj (Option.some.inj hnx)
          refine brc_intro (fun _ => ?_) (fun h => ?_)
          · refine brc_intro (fun h => ?_) (fun _ => ?_)
            · exact absurd hxy (by simpa using h)
            refine brc_intro (fun h => ?_) (fun _ => ?_)
            · exact absurd (show a.o = 8 by simpa using h) (by omega)
            refine brc_intro (fun h => ?_) (fun _ => ?_)
            · exact absurd (show a.o = 7 by simpa using h) (by omega)
            refine At.mk' [8, 9, 10, 33, 34, 35] ⟨i + 1, es, clk, L', w'⟩ ⟨⟨hlt2, hg', hms1⟩, by show z1.al.length - (i + 1) < z1.al.length - i; omega⟩ ⟨?_, rfl⟩ rfl rfl (by simp) (by simp) (by decide)
            rw [wr]
          · exact absurd h9 (by simpa using h)
      · have h9 : a.o ≠ 9 := by simpa using h9
        rw [if_neg (fun h => h9 h.1), if_neg (fun h => h9 h.1)] at hnx
        refine brc_intro (fun h => ?_) (fun _ => ?_)
        · exact absurd (show a.o = 9 by simpa using h) h9
        refine brc_intro (fun h8 => ?_) (fun h8 => ?_)
        · have h8 : a.o = 8 := by simpa using h8
          rw [if_pos h8] at hnx
          by_cases hin : a.t ∈ L
          · rw [if_pos hin] at hnx hgt
            obtain ⟨rfl, rfl⟩ := Prod.mk.inj (Option.some.inj hnx)
            refine brc_intro (fun h => ?_) (fun _ => ?_)
            · have h : (!(mpGet es [a.t] != 0)) = true := h
              rw [hgt] at h
              cases h
            refine At.mk' [8, 9, 10, 33, 34, 35] ⟨i + 1, mpDel [a.t] es, clk, L.erase a.t, w'⟩ ⟨⟨hlt2, hg', hms1.del a.t⟩, by show z1.al.length - (i + 1) < z1.al.length - i; omega⟩ ⟨?_, rfl⟩ rfl rfl (by simp) (by simp) (by decide)
            rw [wr]
          · rw [if_neg hin] at hnx
            cases hnx
        · have h8 : a.o ≠ 8 := by simpa using h8
          rw [if_neg h8] at hnx
          refine brc_intro (fun h7 => ?_) (fun h7 => ?_)
          · have h7 : a.o = 7 := by simpa using h7
            rw [if_pos h7] at hnx
            by_cases hin : w = a.t
            · rw [if_pos hin] at hnx
              obtain ⟨rfl, rfl⟩ := Prod.mk.inj (Option.some.inj hnx)
              refine brc_intro (fun h => ?_) (fun _ => ?_)
              · exact absurd hin (by simpa using h)
              refine At.mk' [8, 9, 10, 33, 34, 35] ⟨i + 1, es, clk, L', -1⟩ ⟨⟨hlt2, hg', hms1⟩, by show z1.al.length - (i + 1) < z1.al.length - i; omega⟩ ⟨?_, rfl⟩ rfl rfl (by simp) (by simp) (by decide)
              rw [wr]
            · rw [if_neg hin] at hnx
              cases hnx
          · have h7 : a.o ≠ 7 := by simpa using h7
            rw [if_neg h7] at hnx
            obtain ⟨rfl, rfl⟩ := Prod.mk.inj (Option.some.inj hnx)
            refine At.mk' [8, 9, 10, 33, 34, 35] ⟨i + 1, es, clk, L', w'⟩ ⟨⟨hlt2, hg', hms1⟩, by show z1.al.length - (i + 1) < z1.al.length - i; omega⟩ ⟨?_, rfl⟩ rfl rfl (by simp) (by simp) (by decide)
            rw [wr]
    · have hlt : ¬ (i : Int) < (z1.al.length : Int) := of_decide_eq_false hlt
      obtain rfl : i = z1.al.length := by omega
      rw [List.take_length, hfold] at hg
      obtain ⟨rfl, rfl⟩ := Prod.mk.inj (Option.some.inj hg)
      change Does Tryd.prog 33 _ _ _
      refine Does.on 16 [5, 6, 7, 8, 9, 10, 11, 12, 13] _ _ (coreCellsL (m := z1) (v := v1) hw1 hws ?_)
      have hln := hms1.len
      have wl : IntKind.u64.wrap ((Lz.length : Nat) : Int) = ((Lz.length : Nat) : Int) := wrap_u64 _ (by omega) (by omega)
      refine SS.drawR follows (by decide) ?_
      refine brc_intro (fun h1 => ?_) (fun h1 => ?_)
      · have h1 : wz ≥ 0 := of_decide_eq_true h1
        have hu : u = 4294967296 := by
          rcases hown with ⟨h2, _⟩ | ⟨_, _, _, _, h2⟩
          · omega
          · omega
        refine at2 (by simp) (by simp) (rd1 (rowU u) (.int .u64 u) rfl rfl ?_)
        refine brc_intro (fun _ => ?_) (fun h => ?_)
        · repeat' (first | refine And.intro rfl ?_ | refine And.intro (And.intro (by simp) (And.intro (by simp) rfl)) ?_ | refine And.intro (Exists.intro (rowU u) (Exists.intro (.int .u64 u) (And.intro rfl (And.intro rfl rfl)))) ?_ | exact rfl | fail)
        · exact absurd hu (by simpa using h)
      · have h1 : ¬ wz ≥ 0 := of_decide_eq_false h1
        have hu : u = ((Lz.length : Nat) : Int) := by
          rcases hown with ⟨h2, h3⟩ | ⟨t, _, h2, _⟩
          · omega
          · omega
        refine brc_intro (fun _ => ?_) (fun h => ?_)
        · refine at2 (by simp) (by simp) (rd1 (rowU u) (.int .u64 u) rfl rfl ?_)
          have hfin : (u == IntKind.u64.wrap ((es.length : Nat) : Int)) = true := by
            rw [hln, wl, hu]
            simp
          repeat' (first | refine And.intro rfl ?_ | refine And.intro (And.intro (by simp) (And.intro (by simp) rfl)) ?_ | exact congrArg bl hfin | fail)
        · have h := of_decide_eq_false h
          exact absurd (show wz < 0 by omega) h
  · obtain ⟨gs, u, hJ⟩ := hI
    have hws := hJ.sys.ws
    have hval := hJ.val
    have hexx := hJ.ex
    obtain ⟨Lz, wz, hfo⟩ := hJ.fo
    have hlk8 := rsum_const n 1 (fun t => rlk (ls t) (gs t)) fun s _ => rlk_le _ _
    have hfold := hfo.fold
    have hlen := hfo.len
    have hown := hfo.own
    clear hfo hJ
    have hal1 := hw.al
    have hk1 := hw.k
    change Does Tryd.prog 28 _ _ _
    refine Does.on 15 [5, 6, 7, 8, 9, 10, 11, 12, 13] _ _ (coreActs (m := z) (v := v) (by omega) ?_)
    refine SS.loop (fun p : LookS => p.i ≤ z.al.length ∧ rwFold (z.al.take p.i) = some (p.L, p.w) ∧ MSet p.es p.L) (fun p => [(8, cv (.ptr 5 0)), (9, cv (.map 14)), (10, i64 p.w), (33, cv (.slc 15 0 z.al.length none false)), (34, i64 z.al.length), (35, i64 p.i)])
      (fun p => [.rows2 true 1 (l.map fun xs => xs.map rowZ), .rows true 2 (ms.map rowMove), rtH, callsH false calls, .rows false 1 [rowU 0]] ++ machS 5 z v ++ [.mp 0 true p.es p.clk, .rows false 6 (z.al.map rowAct)]) (fun p => z.al.length - p.i) [3, 11, 12, 13]
      (At.mk' [8, 9, 10, 33, 34, 35] ⟨0, [], 0, [], -1⟩ ⟨Nat.zero_le _, rfl, MSet.nil⟩ ⟨rfl, rfl⟩ rfl rfl (by simp) (by simp) (by decide)) ?_
    rintro ⟨i, es, clk, L, w⟩ ⟨hi, hg, hms1⟩
    change i ≤ z.al.length at hi
    change rwFold (z.al.take i) = some (L, w) at hg
    change MSet es L at hms1
    refine S_r ?_
    refine brc_intro (fun hlt => ?_) (fun hlt => ?_)
    · have hlt2 : i < z.al.length := by
        have := of_decide_eq_true hlt
        have : (i : Int) < (z.al.length : Int) := this
        omega
      obtain ⟨a, ha⟩ : ∃ a, z.al[i]? = some a := ⟨_, List.getElem?_eq_getElem hlt2⟩
      have hnx := rwFold_take ha
      obtain ⟨⟨L', w'⟩, hg'⟩ := rwFold_pre hfold (i + 1)
      rw [hg', hg, rwF] at hnx
      have wr : IntKind.i64.wrap ((i : Int) + 1) = ((i + 1 : Nat) : Int) := wrap_i64 _ (by omega) (by omega)
      have hgt := hms1.get a.t
      have hln := hms1.len
      refine SS.inlR ?_
      refine at2 (a := (0 : Int) ≤ (i : Int)) (b := (i : Int) < (z.al.length : Int)) (by omega) (by omega) (rdA (rowAct a) (by simp [ha]) ?_)
      refine brc_intro (fun h9 => ?_) (fun h9 => ?_)
      · have h9 : a.o = 9 := by simpa using h9
        refine brc_intro (fun hxy => ?_) (fun hxy => ?_)
        · have hxy : a.x ≠ a.y := by simpa using hxy
          refine brc_intro (fun hy => ?_) (fun hy => ?_)
          · have hy : a.y = 4294967296 := by simpa using hy
            rw [if_pos ⟨h9, hxy, hy⟩] at hnx
            by_cases hbad : 0 ≤ w ∨ L ≠ []
            · rw [if_pos hbad] at hnx
              cases hnx
            rw [if_neg hbad] at hnx
            obtain ⟨rfl, rfl⟩ := Prod.mk.inj (Option.some.inj hnx)
            refine brc_intro (fun h => ?_) (fun _ => ?_)
            · exact absurd (.inl (of_decide_eq_true h)) hbad
            refine brc_intro (fun h => ?_) (fun _ => ?_)
            · have h := of_decide_eq_true h
              have h : (es.length : Int) > 0 := h
              exact absurd (.inr fun e => by rw [e] at hln; rw [hln] at h; exact absurd h (by decide)) hbad
            refine At.mk' [8, 9, 10, 33, 34, 35] ⟨i + 1, es, clk, L', a.t⟩ ⟨⟨hlt2, hg', hms1⟩, by show z.al.length - (i + 1) < z.al.length - i; omega⟩ ⟨?_, rfl⟩ rfl rfl (by simp) (by simp) (by decide)
            rw [wr]
          · have hy : a.y ≠ 4294967296 := by simpa using hy
            rw [if_neg (fun h => hy h.2.2), if_pos ⟨h9, hxy⟩] at hnx
            by_cases hbad : 0 ≤ w ∨ a.t ∈ L ∨ a.y ≠ a.x + 1 ∨ a.x < 0 ∨ 8 < a.x
            · rw [if_pos hbad] at hnx
              cases hnx
            rw [if_neg hbad] at hnx
            obtain ⟨rfl, rfl⟩ := Prod.mk.inj (Option.some.inj hnx)
            have hnot : a.t ∉ L := fun h => hbad (.inr (.inl h))
            rw [if_neg hnot] at hgt
            refine brc_intro (fun _ => ?_) (fun h => ?_)
            · refine brc_intro (fun _ => ?_) (fun h => ?_)
              · refine brc_intro (fun h => ?_) (fun _ => ?_)
                · exact absurd (.inl (of_decide_eq_true h)) hbad
                refine brc_intro (fun h => ?_) (fun _ => ?_)
                · have h : (mpGet es [a.t] != 0) = true := h
                  rw [hgt] at h
                  cases h
                refine brc_intro (fun h => ?_) (fun _ => ?_)
                · exfalso
                  have h : (a.y != IntKind.u64.wrap (a.x + 1)) = true := h
                  have e1 : a.y = a.x + 1 := Classical.byContradiction fun e => hbad (.inr (.inr (.inl e)))
                  have e2 : 0 ≤ a.x := Int.not_lt.1 fun e => hbad (.inr (.inr (.inr (.inl e))))
                  have e3 : a.x ≤ 8 := Int.not_lt.1 fun e => hbad (.inr (.inr (.inr (.inr e))))
                  rw [wrap_u64 _ (by omega) (by omega), e1] at h
                  simp at h
                refine At.mk' [8, 9, 10, 33, 34, 35] ⟨i + 1, mpPut es [a.t] 1 clk, mpClk es [a.t] clk, L ++ [a.t], w'⟩ ⟨⟨hlt2, hg', hms1.put hnot clk⟩, by show z.al.length - (i + 1) < z.al.length - i; omega⟩ ⟨?_, rfl⟩ rfl rfl (by simp) (by simp) (by decide)
                rw [wr]
              · exact absurd hxy (by simpa using h)
            · exact absurd h9 (by simpa using h)
        · have hxy : a.x = a.y := by simpa using hxy
          rw [if_neg (fun h => h.2.1 hxy), if_neg (fun h => h.2 hxy), if_neg (by omega), if_neg (by omega)] at hnx
          obtain ⟨rfl, rfl⟩ := Prod.mk.inj (Option.some.inj hnx)
          refine brc_intro (fun _ => ?_) (fun h => ?_)
          · refine brc_intro (fun h => ?_) (fun _ => ?_)
            · exact absurd hxy (by simpa using h)
            refine brc_intro (fun h => ?_) (fun _ => ?_)
            · exact absurd (show a.o = 8 by simpa using h) (by omega)
            refine brc_intro (fun h => ?_) (fun _ => ?_)
            · exact absurd (show a.o = 7 by simpa using h) (by omega)
            refine At.mk' [8, 9, 10, 33, 34, 35] ⟨i + 1, es, clk, L', w'⟩ ⟨⟨hlt2, hg', hms1⟩, by show z.al.length - (i + 1) < z.al.length - i; omega⟩ ⟨?_, rfl⟩ rfl rfl (by simp) (by simp) (by decide)
            rw [wr]
          · exact absurd h9 (by simpa using h)
      · have h9 : a.o ≠ 9 := by simpa using h9
        rw [if_neg (fun h => h9 h.1), if_neg (fun h => h9 h.1)] at hnx
        refine brc_intro (fun h => ?_) (fun _ => ?_)
        · exact absurd (show a.o = 9 by simpa using h) h9
        refine brc_intro (fun h8 => ?_) (fun h8 => ?_)
        · have h8 : a.o = 8 := by simpa using h8
          rw [if_pos h8] at hnx
          by_cases hin : a.t ∈ L
          · rw [if_pos hin] at hnx hgt
            obtain ⟨rfl, rfl⟩ := Prod.mk.inj (Option.some.inj hnx)
            refine brc_intro (fun h => ?_) (fun _ => ?_)
            · have h : (!(mpGet es [a.t] != 0)) = true := h
              rw [hgt] at h
              cases h
            refine At.mk' [8, 9, 10, 33, 34, 35] ⟨i + 1, mpDel [a.t] es, clk, L.erase a.t, w'⟩ ⟨⟨hlt2, hg', hms1.del a.t⟩, by show z.al.length - (i + 1) < z.al.length - i; omega⟩ ⟨?_, rfl⟩ rfl rfl (by simp) (by simp) (by decide)
            rw [wr]
          · rw [if_neg hin] at hnx
            cases hnx
        · have h8 : a.o ≠ 8 := by simpa using h8
          rw [if_neg h8] at hnx
          refine brc_intro (fun h7 => ?_) (fun h7 => ?_)
          · have h7 : a.o = 7 := by simpa using h7
            rw [if_pos h7] at hnx
            by_cases hin : w = a.t
            · rw [if_pos hin] at hnx
              obtain ⟨rfl, rfl⟩ := Prod.mk.inj (Option.some.inj hnx)
              refine brc_intro (fun h => ?_) (fun _ => ?_)
              · exact absurd hin (by simpa using h)
              refine At.mk' [8, 9, 10, 33, 34, 35] ⟨i + 1, es, clk, L', -1⟩ ⟨⟨hlt2, hg', hms1⟩, by show z.al.length - (i + 1) < z.al.length - i; omega⟩ ⟨?_, rfl⟩ rfl rfl (by simp) (by simp) (by decide)
              rw [wr]
            · rw [if_neg hin] at hnx
              cases hnx
          · have h7 : a.o ≠ 7 := by simpa using h7
            rw [if_neg h7] at hnx
            obtain ⟨rfl, rfl⟩ := Prod.mk.inj (Option.some.inj hnx)
            refine At.mk' [8, 9, 10, 33, 34, 35] ⟨i + 1, es, clk, L', w'⟩ ⟨⟨hlt2, hg', hms1⟩, by show z.al.length - (i + 1) < z.al.length - i; omega⟩ ⟨?_, rfl⟩ rfl rfl (by simp) (by simp) (by decide)
            rw [wr]
    · have hlt : ¬ (i : Int) < (z.al.length : Int) := of_decide_eq_false hlt
      obtain rfl : i = z.al.length := by omega
      rw [List.take_length, hfold] at hg
      obtain ⟨rfl, rfl⟩ := Prod.mk.inj (Option.some.inj hg)
      change Does Tryd.prog 33 _ _ _
      refine Does.on 16 [5, 6, 7, 8, 9, 10, 11, 12, 13] _ _ (coreCellsL (m := z) (v := v) hw hws ?_)
      have hln := hms1.len
      have wl : IntKind.u64.wrap ((Lz.length : Nat) : Int) = ((Lz.length : Nat) : Int) := wrap_u64 _ (by omega) (by omega)
      refine SS.drawR follows (by decide) ?_
      refine brc_intro (fun h1 => ?_) (fun h1 => ?_)
      · have h1 : wz ≥ 0 := of_decide_eq_true h1
        have hu : u = 4294967296 := by
          rcases hown with ⟨h2, _⟩ | ⟨_, _, _, _, h2⟩
          · omega
          · omega
        refine at2 (by simp) (by simp) (rd1 (rowU u) (.int .u64 u) rfl rfl ?_)
        refine brc_intro (fun _ => ?_) (fun h => ?_)
        · repeat' (first | refine And.intro rfl ?_ | refine And.intro (And.intro (by simp) (And.intro (by simp) rfl)) ?_ | refine And.intro (Exists.intro (rowU u) (Exists.intro (.int .u64 u) (And.intro rfl (And.intro rfl rfl)))) ?_ | exact rfl | fail)
        · exact absurd hu (by simpa using h)
      · have h1 : ¬ wz ≥ 0 := of_decide_eq_false h1
        have hu : u = ((Lz.length : Nat) : Int) := by
          rcases hown with ⟨h2, h3⟩ | ⟨t, _, h2, _⟩
          · omega
          · omega
        refine brc_intro (fun _ => ?_) (fun h => ?_)
        · refine at2 (by simp) (by simp) (rd1 (rowU u) (.int .u64 u) rfl rfl ?_)
          have hfin : (u == IntKind.u64.wrap ((es.length : Nat) : Int)) = true := by
            rw [hln, wl, hu]
            simp
          repeat' (first | refine And.intro rfl ?_ | refine And.intro (And.intro (by simp) (And.intro (by simp) rfl)) ?_ | exact congrArg bl hfin | fail)
        · have h := of_decide_eq_false h
          exact absurd (show wz < 0 by omega) h

end Go.Mac
