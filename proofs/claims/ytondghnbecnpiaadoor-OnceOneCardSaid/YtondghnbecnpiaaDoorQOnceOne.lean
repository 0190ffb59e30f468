/- Just once. -/
import Derived.Test.YtondghnbecnpiaaDoorQOnceEnds
import Derived.Test.YtondghnbecnpiaaDoorQCount
open Go Go.Proofs Go.Mac
set_option maxRecDepth 100000
namespace Go.Mac

/-- When the last store was; -1: never. -/
def whenZ (l : List ActZ) : Int := (stW l).getD (-1)

theorem fetN_take (l : List ActZ) (i : Nat) (a : ActZ) (h : l[i]? = some a) : fetN (l.take (i + 1)) = fetN (l.take i) + if a.o = 8 then 1 else 0 := by
  rw [List.take_add_one, h]
  exact fetN_snoc _ _

theorem whenZ_take (l : List ActZ) (i : Nat) (a : ActZ) (h : l[i]? = some a) : whenZ (l.take (i + 1)) = if a.o = 7 then a.w else whenZ (l.take i) := by
  rw [List.take_add_one, h, whenZ]
  show (stW (l.take i ++ [a])).getD (-1) = _
  rw [stW_snoc]
  split <;> rfl

theorem fetN_le (l : List ActZ) (i : Nat) : fetN (l.take i) ≤ i := by
  have := List.length_filter_le (fun a : ActZ => a.o == 8) (l.take i)
  rw [List.length_take] at this
  rw [fetN]; omega

def mineZ (l : List EvZ) : Int := (l.map (·.v)).sum

theorem mineZ_take (l : List EvZ) (i : Nat) (e : EvZ) (h : l[i]? = some e) : mineZ (l.take (i + 1)) = mineZ (l.take i) + e.v := by
  rw [List.take_add_one, h, mineZ, List.map_append, List.sum_append]
  show _ + (e.v + 0) = _
  rw [Int.add_zero]
  rfl

theorem mineZ_le (l : List EvZ) (h : ∀ e ∈ l, e.v = 0 ∨ e.v = 1) : 0 ≤ mineZ l ∧ mineZ l ≤ l.length := by
  induction l with
  | nil => decide
  | cons e l ih =>
    have h1 := ih fun x hx => h x (by simp [hx])
    have h2 := h e (by simp)
    have e1 : mineZ (e :: l) = e.v + mineZ l := rfl
    rw [e1, List.length_cons]
    omega

theorem count_asks (l : List (List Int)) : countZ 18 (asksZ [18] l) = ((asksZ [18] l).map List.length).sum := by
  rw [countZ]
  congr 1
  refine List.map_congr_left fun x hx => ?_
  rw [asksZ] at hx
  obtain ⟨y, _, rfl⟩ := List.mem_map.1 hx
  rw [countL, List.filter_eq_self.2]
  intro c hc
  rw [(asks_one 18 y c hc).1]; rfl

theorem gAct {l : List ActZ} {i : Nat} {x : ActZ} (h : l[i]? = some x) : (l.map rowAct)[0 + Int.toNat (i : Int)]? = some (rowAct x) := by simp [h]

theorem onceOne (l : List (List Int)) (_hw : ∀ xs ∈ l, ∀ x ∈ xs, -9223372036854775808 ≤ x ∧ x ≤ 9223372036854775807) (hl : l.length ≤ 9223372036854775807) (hm : ∀ xs ∈ l, xs.length ≤ 9223372036854775807) (ms : List MoveZ) (dn : Bool) :
    Does Tryd.prog 9 [cv (.slc 0 0 l.length none false), cv (.slc 1 0 ms.length none false), bl dn] [.rows2 true 1 (l.map fun xs => xs.map rowZ), .rows true 2 (ms.map rowMove), rtH] fun v _ _ => v = bl true := by
  refine does Tryd.func9 rfl (by decide) ?_
  change Does Tryd.prog 35 _ _ _
  refine Does.alone 3 (ones ?_)
  refine brc_intro (fun _ => rfl) (fun h => ?_)
  have hms : ms.length ≤ 600 := by
    have := of_decide_eq_false h
    omega
  change Does Tryd.prog 36 _ _ _
  refine Does.on 4 [0, 3] _ _ (asks (l := l) (ofs := [18]) (k := 1) rfl rfl (by decide) hl hm ?_)
  have hcnt := count_asks l
  generalize hcs : (asksZ [18] l).map List.length = cs at hcnt
  have hn : (asksZ [18] l).length = min l.length 8 := asksZ_len _ _
  have hcl : cs.length ≤ 8 := by rw [← hcs, List.length_map]; omega
  have hc8 : ∀ c ∈ cs, c ≤ 8 := fun c hc => by
    rw [← hcs] at hc
    obtain ⟨x, hx, rfl⟩ := List.mem_map.1 hc
    rw [asksZ] at hx
    obtain ⟨y, _, rfl⟩ := List.mem_map.1 hx
    exact askL_len _ _
  have hps : (asksZ [18] l).map onceP = cs.map (repP onceB) := by
    rw [← hcs, List.map_map]
    exact List.map_congr_left fun x _ => onceP_rep x
  have hl12 : ∀ x ∈ asksZ [18] l, x.length ≤ 12 := fun x hx => by
    rw [asksZ] at hx
    obtain ⟨y, _, rfl⟩ := List.mem_map.1 hx
    exact Nat.le_trans (askL_len _ _) (by decide)
  have hI := once_moves hcl hc8 ms
  obtain ⟨z, hz⟩ : ∃ z, movesZ (mz0 (cs.map (repP onceB)) [0, 0]) ms = z := ⟨_, rfl⟩
  rw [hz] at hI
  change Does Tryd.prog 24 _ _ _
  refine Does.on 6 [4, 5, 1] _ _ (made (ls := asksZ [18] l) (ps := cs.map (repP onceB)) (ws := [0, 0]) (ms := ms) (f := 37) (n := min l.length 8) (nc := 2) (ro := false) (ro2 := false) (ro3 := true) hn (by rw [← hps, List.length_map, hn]) rfl rfl (by omega) (by decide) (by omega) (fun p hp => ?_) (by decide) (hz := hz) (fun i l' p hl hp K' hK' => ?_) fun v hv hw => ?_)
  · obtain ⟨c, hc', rfl⟩ := List.mem_map.1 hp
    have := hc8 c hc'
    exact List.all_eq_true.1 onceRight c (List.mem_range.2 (by omega))
  · obtain rfl : onceP l' = p := by
      rw [← hps, List.getElem?_map, hl] at hp
      exact Option.some.inj hp
    have hm := List.mem_of_getElem? hl
    rw [asksZ] at hm
    obtain ⟨y, _, rfl⟩ := List.mem_map.1 hm
    exact onceCode' i i _ hl (Nat.le_trans (askL_len _ _) (by decide)) (asks_one 18 y) hK'
  generalize hcall : asksZ [18] l = calls at hn hcnt hl12
  have hn8 : min l.length 8 ≤ 8 := by omega
  generalize min l.length 8 = n at hn hn8
  refine brc_intro (fun hdn => ?_) (fun hdn => ?_)
  · change Does Tryd.prog 28 _ _ _
    refine Does.on 15 [6, 7, 8, 9, 10, 11, 12, 13, 14] _ _ (fairFinish (m := z) (v := v) hw hv fun v1 _ hv1 hw1 => ?_)
    obtain ⟨hI1, hd⟩ := once_finish hI (by omega)
    obtain ⟨z1, hz1⟩ : ∃ z1, finish z = z1 := ⟨_, rfl⟩
    rw [hz1] at hI1 hd hw1
    rw [hz1]
    obtain ⟨w0, w1, q, t0, hJ⟩ := hI1
    have hend : dn = true → mineZ z1.el = if 0 < cs.sum then 1 else 0 := fun _ => once_end hJ hd
    clear hd hz1
    change Does Tryd.prog 29 _ _ _
    have hal1 := hw1.al
    have hel1 := hw1.el
    have hk1 := hw1.k
    have hF := hJ.f
    have hpot := hJ.pot
    refine Does.on 15 [6, 7, 8, 9, 10, 11, 12, 13, 14] _ _ (coreActs (m := z1) (v := v1) (by omega) ?_)
    refine SS.loop (fun i : Nat => i ≤ z1.al.length) (fun i => [(2, bl dn), (7, cv (.slc 4 0 n none false)), (8, cv (.ptr 6 0)), (9, i64 (fetN (z1.al.take i))), (10, i64 (whenZ (z1.al.take i))), (35, cv (.slc 15 0 z1.al.length none false)), (36, i64 z1.al.length), (37, i64 i)])
      (fun _ => [.rows2 true 1 (l.map fun xs => xs.map rowZ), .rows true 2 (ms.map rowMove), rtH, .rows false 1 [rowZ 18], callsH false calls, .rows false 1 [rowU 0, rowU 0]] ++ machS 6 z1 v1 ++ [.rows false 6 (z1.al.map rowAct)]) (fun i => z1.al.length - i) [4, 12, 13, 14]
      (At.mk' [2, 7, 8, 9, 10, 35, 36, 37] 0 (by simp) ⟨rfl, rfl⟩ rfl rfl (by simp) (by simp) (by decide)) ?_
    · intro i hi
      change i ≤ z1.al.length at hi
      refine S_r ?_
      refine brc_intro (fun hlt => ?_) (fun hlt => ?_)
      · have hlt : i < z1.al.length := by
          have := of_decide_eq_true hlt
          have : (i : Int) < (z1.al.length : Int) := this
          omega
        obtain ⟨a, ha⟩ : ∃ a, z1.al[i]? = some a := ⟨_, List.getElem?_eq_getElem hlt⟩
        have hfl := fetN_le z1.al i
        have hf1 := fetN_take z1.al i a ha
        have hf2 := whenZ_take z1.al i a ha
        refine SS.inlR ?_
        refine at2 (a := (0 : Int) ≤ (i : Int)) (b := (i : Int) < (z1.al.length : Int)) (by omega) (by omega) (rdA (rowAct a) (gAct ha) ?_)
        refine brc_intro (fun h8 => ?_) (fun h8 => ?_)
        · have h8 : a.o = 8 := by simpa using h8
          refine brc_intro (fun h7 => ?_) (fun h7 => ?_)
          · have h7 : a.o = 7 := by simpa using h7
            omega
          rw [if_pos h8] at hf1
          rw [if_neg (by omega)] at hf2
          refine At.mk' [2, 7, 8, 9, 10, 35, 36, 37] (i + 1) ⟨hlt, by omega⟩ ⟨?_, rfl⟩ rfl rfl (by simp) (by simp) (by decide)
          rw [wrap_i64 (i + 1) (by omega) (by omega), wrap_i64 (_ + 1) (by omega) (by omega), hf1, hf2]
          rfl
        · have h8 : a.o ≠ 8 := by simpa using h8
          rw [if_neg h8] at hf1
          refine brc_intro (fun h7 => ?_) (fun h7 => ?_)
          · have h7 : a.o = 7 := by simpa using h7
            rw [if_pos h7] at hf2
            refine At.mk' [2, 7, 8, 9, 10, 35, 36, 37] (i + 1) ⟨hlt, by omega⟩ ⟨?_, rfl⟩ rfl rfl (by simp) (by simp) (by decide)
            rw [wrap_i64 (i + 1) (by omega) (by omega), hf1, hf2]
            rfl
          · have h7 : a.o ≠ 7 := by simpa using h7
            rw [if_neg h7] at hf2
            refine At.mk' [2, 7, 8, 9, 10, 35, 36, 37] (i + 1) ⟨hlt, by omega⟩ ⟨?_, rfl⟩ rfl rfl (by simp) (by simp) (by decide)
            rw [wrap_i64 (i + 1) (by omega) (by omega), hf1, hf2]
            rfl
      · have hlt : ¬ (i : Int) < (z1.al.length : Int) := of_decide_eq_false hlt
        obtain rfl : i = z1.al.length := by omega
        rw [List.take_length]
        change Does Tryd.prog 22 _ _ _
        refine Does.on 16 [6, 7, 8, 9, 10, 11, 12, 13, 14] _ _ (coreEvents (m := z1) (v := v1) (by omega) ?_)
        have hev := hF.ev
        have hwn : ∀ s, stW z1.al = some s → whenZ z1.al = s := fun s hs => by rw [whenZ, hs]; rfl
        obtain ⟨wn, hwz⟩ : ∃ wn, whenZ z1.al = wn := ⟨_, rfl⟩
        obtain ⟨fd, hfd⟩ : ∃ fd : Int, (fetN z1.al : Int) = fd := ⟨_, rfl⟩
        rw [hwz, hfd]
        refine SS.loop (fun i : Nat => i ≤ z1.el.length) (fun i => [(2, bl dn), (7, cv (.slc 4 0 n none false)), (8, cv (.ptr 6 0)), (9, i64 fd), (10, i64 wn), (13, i64 (mineZ (z1.el.take i))), (53, cv (.slc 16 0 z1.el.length none false)), (54, i64 z1.el.length), (55, i64 i)])
          (fun _ => [.rows2 true 1 (l.map fun xs => xs.map rowZ), .rows true 2 (ms.map rowMove), rtH, .rows false 1 [rowZ 18], callsH false calls, .rows false 1 [rowU 0, rowU 0]] ++ machS 6 z1 v1 ++ [.rows false 6 (z1.al.map rowAct), .rows false 4 (z1.el.map rowEv)]) (fun i => z1.el.length - i) [4, 12, 13, 14]
          (At.mk' [2, 7, 8, 9, 10, 13, 53, 54, 55] 0 (by simp) ⟨rfl, rfl⟩ rfl rfl (by simp) (by simp) (by decide)) ?_
        intro i hi
        change i ≤ z1.el.length at hi
        refine S_r ?_
        refine brc_intro (fun hlt => ?_) (fun hlt => ?_)
        · have hlt : i < z1.el.length := by
            have := of_decide_eq_true hlt
            have : (i : Int) < (z1.el.length : Int) := this
            omega
          obtain ⟨a, ha⟩ : ∃ a, z1.el[i]? = some a := ⟨_, List.getElem?_eq_getElem hlt⟩
          obtain ⟨⟨s, hs, hsw⟩, hav⟩ := hev a (List.mem_of_getElem? ha)
          have hws := hwn s hs
          rw [hwz] at hws
          have hs0 : 0 ≤ wn ∧ 7 ≤ q := by
            by_cases h7 : 7 ≤ q
            · obtain ⟨s', hs', h0, _⟩ := hF.st1 h7
              rw [hs] at hs'
              have := Option.some.inj hs'
              omega
            · have := hF.st0 (by omega)
              rw [hs] at this; cases this
          have hml := mineZ_le (z1.el.take i) fun e he => (hev e (List.mem_of_mem_take he)).2
          rw [List.length_take] at hml
          have hmt := mineZ_take z1.el i a ha
          refine SS.inlR ?_
          refine at2 (a := (0 : Int) ≤ (i : Int)) (b := (i : Int) < (z1.el.length : Int)) (by omega) (by omega) (rdA (rowEv a) (gev ha) ?_)
          refine brc_intro (fun h => absurd (of_decide_eq_true h) (by omega)) (fun _ => ?_)
          refine brc_intro (fun h => absurd (of_decide_eq_true h) (by omega)) (fun _ => ?_)
          rcases hav with hv0 | hv0
          · refine brc_intro (fun h => absurd (show (a.v != 0) = true from h) (by rw [hv0]; decide)) (fun _ => ?_)
            refine At.mk' [2, 7, 8, 9, 10, 13, 53, 54, 55] (i + 1) ⟨hlt, by omega⟩ ⟨?_, rfl⟩ rfl rfl (by simp) (by simp) (by decide)
            rw [wrap_i64 (i + 1) (by omega) (by omega), wrap_i64 (_ + a.v) (by omega) (by omega), hmt]
            rfl
          · refine brc_intro (fun _ => ?_) (fun h => absurd (show (a.v != 0) = false from h) (by rw [hv0]; decide))
            refine brc_intro (fun h => absurd (show (a.v != 1) = true from h) (by rw [hv0]; decide)) (fun _ => ?_)
            refine At.mk' [2, 7, 8, 9, 10, 13, 53, 54, 55] (i + 1) ⟨hlt, by omega⟩ ⟨?_, rfl⟩ rfl rfl (by simp) (by simp) (by decide)
            rw [wrap_i64 (i + 1) (by omega) (by omega), wrap_i64 (_ + a.v) (by omega) (by omega), hmt]
            rfl
        · have hlt : ¬ (i : Int) < (z1.el.length : Int) := of_decide_eq_false hlt
          obtain rfl : i = z1.el.length := by omega
          rw [List.take_length]
          change Does Tryd.prog 27 _ _ _
          refine Does.on 17 [6, 7, 8, 9, 10, 11, 12, 13, 14] _ _ (coreCellsL (m := z1) (v := v1) hw1 hJ.ws ?_)
          have hcount : ∀ K : AV → List Nat → List PO → Prop, K (i64 cs.sum) [] [callsH false calls] → Does Tryd.prog 38 [cv (.slc 0 0 n none false), i64 18] [callsH false calls] K := fun K hK => count hn (by omega) hl12 (by rw [hcnt]; exact hK)
          have hmn : mineZ z1.el = if q = 14 then 1 else 0 := hF.mine
          obtain ⟨mn, hmz⟩ : ∃ mn, mineZ z1.el = mn := ⟨_, rfl⟩
          rw [hmz] at hmn hend
          rw [hmz]
          have hw0 := hF.hw0
          have hw1' := hF.hw1
          have hfet := hF.fet
          rw [hfd] at hfet
          have hq := hF.hq
          have hst0 : q < 7 → wn = -1 := fun h => by rw [← hwz, whenZ, hF.st0 h]; rfl
          have hst1 : 7 ≤ q → 0 ≤ wn := fun h => by
            obtain ⟨s, hs, h0, _⟩ := hF.st1 h
            have := hwn s hs
            omega
          subst hdn
          have key : 0 < cs.sum ∧ mn = 1 ∨ cs.sum = 0 ∧ mn = 0 := by
            have := hend rfl
            split at this <;> omega
          rcases hq with rfl | rfl | rfl | rfl | rfl | rfl | rfl | rfl
          · obtain rfl : w0 = 0 := hw0
            obtain rfl : w1 = 0 := hw1'
            obtain rfl : fd = 0 := hfet
            obtain rfl : mn = 0 := hmn
            obtain rfl : wn = -1 := hst0 (by decide)
            refine at2 (by decide) (by decide) (rd1 (rowU 0) (.int .u64 0) rfl rfl ?_)
            refine at2 (by decide) (by decide) (rd1 (rowU 0) (.int .u64 0) rfl rfl ?_)
            change Does Tryd.prog 38 _ _ _
            refine Does.on 18 [4] _ _ (hcount _ ?_)
            refine fin (beq_iff_eq.2 ?_)
            split <;> omega
          · obtain rfl : w0 = 1 := hw0
            obtain rfl : w1 = 0 := hw1'
            obtain rfl : fd = 0 := hfet
            obtain rfl : mn = 0 := hmn
            obtain rfl : wn = -1 := hst0 (by decide)
            refine at2 (by decide) (by decide) (rd1 (rowU 0) (.int .u64 0) rfl rfl ?_)
            refine at2 (by decide) (by decide) (rd1 (rowU 1) (.int .u64 1) rfl rfl ?_)
            change Does Tryd.prog 38 _ _ _
            refine Does.on 18 [4] _ _ (hcount _ ?_)
            refine fin (beq_iff_eq.2 ?_)
            split <;> omega
          · obtain rfl : w0 = 1 := hw0
            obtain rfl : w1 = 0 := hw1'
            obtain rfl : fd = 0 := hfet
            obtain rfl : mn = 0 := hmn
            obtain rfl : wn = -1 := hst0 (by decide)
            refine at2 (by decide) (by decide) (rd1 (rowU 0) (.int .u64 0) rfl rfl ?_)
            refine at2 (by decide) (by decide) (rd1 (rowU 1) (.int .u64 1) rfl rfl ?_)
            change Does Tryd.prog 38 _ _ _
            refine Does.on 18 [4] _ _ (hcount _ ?_)
            refine fin (beq_iff_eq.2 ?_)
            split <;> omega
          · obtain rfl : w0 = 1 := hw0
            obtain rfl : w1 = 1 := hw1'
            obtain rfl : fd = 1 := hfet
            obtain rfl : mn = 0 := hmn
            obtain rfl : wn = -1 := hst0 (by decide)
            refine at2 (by decide) (by decide) (rd1 (rowU 1) (.int .u64 1) rfl rfl ?_)
            refine at2 (by decide) (by decide) (rd1 (rowU 1) (.int .u64 1) rfl rfl ?_)
            change Does Tryd.prog 38 _ _ _
            refine Does.on 18 [4] _ _ (hcount _ ?_)
            refine fin (beq_iff_eq.2 ?_)
            split <;> omega
          · obtain rfl : w0 = 2 := hw0
            obtain rfl : w1 = 1 := hw1'
            obtain rfl : fd = 1 := hfet
            obtain rfl : mn = 0 := hmn
            have hwn0 := hst1 (by decide)
            refine at2 (by decide) (by decide) (rd1 (rowU 1) (.int .u64 1) rfl rfl ?_)
            refine at2 (by decide) (by decide) (rd1 (rowU 2) (.int .u64 2) rfl rfl ?_)
            refine brc_intro (fun _ => ?_) (fun h => absurd h (by rw [decide_eq_false (show ¬ wn < 0 by omega)]; decide))
            change Does Tryd.prog 38 _ _ _
            refine Does.on 18 [4] _ _ (hcount _ ?_)
            refine fin (beq_iff_eq.2 ?_)
            split <;> omega
          · obtain rfl : w0 = 2 := hw0
            obtain rfl : w1 = 1 := hw1'
            obtain rfl : fd = 1 := hfet
            obtain rfl : mn = 0 := hmn
            have hwn0 := hst1 (by decide)
            refine at2 (by decide) (by decide) (rd1 (rowU 1) (.int .u64 1) rfl rfl ?_)
            refine at2 (by decide) (by decide) (rd1 (rowU 2) (.int .u64 2) rfl rfl ?_)
            refine brc_intro (fun _ => ?_) (fun h => absurd h (by rw [decide_eq_false (show ¬ wn < 0 by omega)]; decide))
            change Does Tryd.prog 38 _ _ _
            refine Does.on 18 [4] _ _ (hcount _ ?_)
            refine fin (beq_iff_eq.2 ?_)
            split <;> omega
          · obtain rfl : w0 = 2 := hw0
            obtain rfl : w1 = 1 := hw1'
            obtain rfl : fd = 1 := hfet
            obtain rfl : mn = 0 := hmn
            have hwn0 := hst1 (by decide)
            refine at2 (by decide) (by decide) (rd1 (rowU 1) (.int .u64 1) rfl rfl ?_)
            refine at2 (by decide) (by decide) (rd1 (rowU 2) (.int .u64 2) rfl rfl ?_)
            refine brc_intro (fun _ => ?_) (fun h => absurd h (by rw [decide_eq_false (show ¬ wn < 0 by omega)]; decide))
            change Does Tryd.prog 38 _ _ _
            refine Does.on 18 [4] _ _ (hcount _ ?_)
            refine fin (beq_iff_eq.2 ?_)
            split <;> omega
          · obtain rfl : w0 = 2 := hw0
            obtain rfl : w1 = 1 := hw1'
            obtain rfl : fd = 1 := hfet
            obtain rfl : mn = 1 := hmn
            have hwn0 := hst1 (by decide)
            refine at2 (by decide) (by decide) (rd1 (rowU 1) (.int .u64 1) rfl rfl ?_)
            refine at2 (by decide) (by decide) (rd1 (rowU 2) (.int .u64 2) rfl rfl ?_)
            refine brc_intro (fun _ => ?_) (fun h => absurd h (by rw [decide_eq_false (show ¬ wn < 0 by omega)]; decide))
            change Does Tryd.prog 38 _ _ _
            refine Does.on 18 [4] _ _ (hcount _ ?_)
            refine fin (beq_iff_eq.2 ?_)
            split <;> omega
  · obtain ⟨w0, w1, q, t0, hJ⟩ := hI
    change Does Tryd.prog 29 _ _ _
    have hal1 := hw.al
    have hel1 := hw.el
    have hk1 := hw.k
    have hF := hJ.f
    have hpot := hJ.pot
    refine Does.on 15 [6, 7, 8, 9, 10, 11, 12, 13, 14] _ _ (coreActs (m := z) (v := v) (by omega) ?_)
    refine SS.loop (fun i : Nat => i ≤ z.al.length) (fun i => [(2, bl dn), (7, cv (.slc 4 0 n none false)), (8, cv (.ptr 6 0)), (9, i64 (fetN (z.al.take i))), (10, i64 (whenZ (z.al.take i))), (35, cv (.slc 15 0 z.al.length none false)), (36, i64 z.al.length), (37, i64 i)])
      (fun _ => [.rows2 true 1 (l.map fun xs => xs.map rowZ), .rows true 2 (ms.map rowMove), rtH, .rows false 1 [rowZ 18], callsH false calls, .rows false 1 [rowU 0, rowU 0]] ++ machS 6 z v ++ [.rows false 6 (z.al.map rowAct)]) (fun i => z.al.length - i) [4, 12, 13, 14]
      (At.mk' [2, 7, 8, 9, 10, 35, 36, 37] 0 (by simp) ⟨rfl, rfl⟩ rfl rfl (by simp) (by simp) (by decide)) ?_
    · intro i hi
      change i ≤ z.al.length at hi
      refine S_r ?_
      refine brc_intro (fun hlt => ?_) (fun hlt => ?_)
      · have hlt : i < z.al.length := by
          have := of_decide_eq_true hlt
          have : (i : Int) < (z.al.length : Int) := this
          omega
        obtain ⟨a, ha⟩ : ∃ a, z.al[i]? = some a := ⟨_, List.getElem?_eq_getElem hlt⟩
        have hfl := fetN_le z.al i
        have hf1 := fetN_take z.al i a ha
        have hf2 := whenZ_take z.al i a ha
        refine SS.inlR ?_
        refine at2 (a := (0 : Int) ≤ (i : Int)) (b := (i : Int) < (z.al.length : Int)) (by omega) (by omega) (rdA (rowAct a) (gAct ha) ?_)
        refine brc_intro (fun h8 => ?_) (fun h8 => ?_)
        · have h8 : a.o = 8 := by simpa using h8
          refine brc_intro (fun h7 => ?_) (fun h7 => ?_)
          · have h7 : a.o = 7 := by simpa using h7
            omega
          rw [if_pos h8] at hf1
          rw [if_neg (by omega)] at hf2
          refine At.mk' [2, 7, 8, 9, 10, 35, 36, 37] (i + 1) ⟨hlt, by omega⟩ ⟨?_, rfl⟩ rfl rfl (by simp) (by simp) (by decide)
          rw [wrap_i64 (i + 1) (by omega) (by omega), wrap_i64 (_ + 1) (by omega) (by omega), hf1, hf2]
          rfl
        · have h8 : a.o ≠ 8 := by simpa using h8
          rw [if_neg h8] at hf1
          refine brc_intro (fun h7 => ?_) (fun h7 => ?_)
          · have h7 : a.o = 7 := by simpa using h7
            rw [if_pos h7] at hf2
            refine At.mk' [2, 7, 8, 9, 10, 35, 36, 37] (i + 1) ⟨hlt, by omega⟩ ⟨?_, rfl⟩ rfl rfl (by simp) (by simp) (by decide)
            rw [wrap_i64 (i + 1) (by omega) (by omega), hf1, hf2]
            rfl
          · have h7 : a.o ≠ 7 := by simpa using h7
            rw [if_neg h7] at hf2
            refine At.mk' [2, 7, 8, 9, 10, 35, 36, 37] (i + 1) ⟨hlt, by omega⟩ ⟨?_, rfl⟩ rfl rfl (by simp) (by simp) (by decide)
            rw [wrap_i64 (i + 1) (by omega) (by omega), hf1, hf2]
            rfl
      · have hlt : ¬ (i : Int) < (z.al.length : Int) := of_decide_eq_false hlt
        obtain rfl : i = z.al.length := by omega
        rw [List.take_length]
        change Does Tryd.prog 22 _ _ _
        refine Does.on 16 [6, 7, 8, 9, 10, 11, 12, 13, 14] _ _ (coreEvents (m := z) (v := v) (by omega) ?_)
        have hev := hF.ev
        have hwn : ∀ s, stW z.al = some s → whenZ z.al = s := fun s hs => by rw [whenZ, hs]; rfl
        obtain ⟨wn, hwz⟩ : ∃ wn, whenZ z.al = wn := ⟨_, rfl⟩
        obtain ⟨fd, hfd⟩ : ∃ fd : Int, (fetN z.al : Int) = fd := ⟨_, rfl⟩
        rw [hwz, hfd]
        refine SS.loop (fun i : Nat => i ≤ z.el.length) (fun i => [(2, bl dn), (7, cv (.slc 4 0 n none false)), (8, cv (.ptr 6 0)), (9, i64 fd), (10, i64 wn), (13, i64 (mineZ (z.el.take i))), (53, cv (.slc 16 0 z.el.length none false)), (54, i64 z.el.length), (55, i64 i)])
          (fun _ => [.rows2 true 1 (l.map fun xs => xs.map rowZ), .rows true 2 (ms.map rowMove), rtH, .rows false 1 [rowZ 18], callsH false calls, .rows false 1 [rowU 0, rowU 0]] ++ machS 6 z v ++ [.rows false 6 (z.al.map rowAct), .rows false 4 (z.el.map rowEv)]) (fun i => z.el.length - i) [4, 12, 13, 14]
          (At.mk' [2, 7, 8, 9, 10, 13, 53, 54, 55] 0 (by simp) ⟨rfl, rfl⟩ rfl rfl (by simp) (by simp) (by decide)) ?_
        intro i hi
        change i ≤ z.el.length at hi
        refine S_r ?_
        refine brc_intro (fun hlt => ?_) (fun hlt => ?_)
        · have hlt : i < z.el.length := by
            have := of_decide_eq_true hlt
            have : (i : Int) < (z.el.length : Int) := this
            omega
          obtain ⟨a, ha⟩ : ∃ a, z.el[i]? = some a := ⟨_, List.getElem?_eq_getElem hlt⟩
          obtain ⟨⟨s, hs, hsw⟩, hav⟩ := hev a (List.mem_of_getElem? ha)
          have hws := hwn s hs
          rw [hwz] at hws
          have hs0 : 0 ≤ wn ∧ 7 ≤ q := by
            by_cases h7 : 7 ≤ q
            · obtain ⟨s', hs', h0, _⟩ := hF.st1 h7
              rw [hs] at hs'
              have := Option.some.inj hs'
              omega
            · have := hF.st0 (by omega)
              rw [hs] at this; cases this
          have hml := mineZ_le (z.el.take i) fun e he => (hev e (List.mem_of_mem_take he)).2
          rw [List.length_take] at hml
          have hmt := mineZ_take z.el i a ha
          refine SS.inlR ?_
          refine at2 (a := (0 : Int) ≤ (i : Int)) (b := (i : Int) < (z.el.length : Int)) (by omega) (by omega) (rdA (rowEv a) (gev ha) ?_)
          refine brc_intro (fun h => absurd (of_decide_eq_true h) (by omega)) (fun _ => ?_)
          refine brc_intro (fun h => absurd (of_decide_eq_true h) (by omega)) (fun _ => ?_)
          rcases hav with hv0 | hv0
          · refine brc_intro (fun h => absurd (show (a.v != 0) = true from h) (by rw [hv0]; decide)) (fun _ => ?_)
            refine At.mk' [2, 7, 8, 9, 10, 13, 53, 54, 55] (i + 1) ⟨hlt, by omega⟩ ⟨?_, rfl⟩ rfl rfl (by simp) (by simp) (by decide)
            rw [wrap_i64 (i + 1) (by omega) (by omega), wrap_i64 (_ + a.v) (by omega) (by omega), hmt]
            rfl
          · refine brc_intro (fun _ => ?_) (fun h => absurd (show (a.v != 0) = false from h) (by rw [hv0]; decide))
            refine brc_intro (fun h => absurd (show (a.v != 1) = true from h) (by rw [hv0]; decide)) (fun _ => ?_)
            refine At.mk' [2, 7, 8, 9, 10, 13, 53, 54, 55] (i + 1) ⟨hlt, by omega⟩ ⟨?_, rfl⟩ rfl rfl (by simp) (by simp) (by decide)
            rw [wrap_i64 (i + 1) (by omega) (by omega), wrap_i64 (_ + a.v) (by omega) (by omega), hmt]
            rfl
        · have hlt : ¬ (i : Int) < (z.el.length : Int) := of_decide_eq_false hlt
          obtain rfl : i = z.el.length := by omega
          rw [List.take_length]
          change Does Tryd.prog 27 _ _ _
          refine Does.on 17 [6, 7, 8, 9, 10, 11, 12, 13, 14] _ _ (coreCellsL (m := z) (v := v) hw hJ.ws ?_)
          have hmn : mineZ z.el = if q = 14 then 1 else 0 := hF.mine
          obtain ⟨mn, hmz⟩ : ∃ mn, mineZ z.el = mn := ⟨_, rfl⟩
          rw [hmz] at hmn
          rw [hmz]
          have hw0 := hF.hw0
          have hw' := hF.hw1
          have hfet := hF.fet
          rw [hfd] at hfet
          have hq := hF.hq
          have hst0 : q < 7 → wn = -1 := fun h => by rw [← hwz, whenZ, hF.st0 h]; rfl
          have hst1 : 7 ≤ q → 0 ≤ wn := fun h => by
            obtain ⟨s, hs, h0, _⟩ := hF.st1 h
            have := hwn s hs
            omega
          subst hdn
          rcases hq with rfl | rfl | rfl | rfl | rfl | rfl | rfl | rfl
          · obtain rfl : w0 = 0 := hw0
            obtain rfl : w1 = 0 := hw'
            obtain rfl : fd = 0 := hfet
            obtain rfl : mn = 0 := hmn
            obtain rfl : wn = -1 := hst0 (by decide)
            refine at2 (by decide) (by decide) (rd1 (rowU 0) (.int .u64 0) rfl rfl ?_)
            refine at2 (by decide) (by decide) (rd1 (rowU 0) (.int .u64 0) rfl rfl ?_)
            exact rfl
          · obtain rfl : w0 = 1 := hw0
            obtain rfl : w1 = 0 := hw'
            obtain rfl : fd = 0 := hfet
            obtain rfl : mn = 0 := hmn
            obtain rfl : wn = -1 := hst0 (by decide)
            refine at2 (by decide) (by decide) (rd1 (rowU 0) (.int .u64 0) rfl rfl ?_)
            refine at2 (by decide) (by decide) (rd1 (rowU 1) (.int .u64 1) rfl rfl ?_)
            exact rfl
          · obtain rfl : w0 = 1 := hw0
            obtain rfl : w1 = 0 := hw'
            obtain rfl : fd = 0 := hfet
            obtain rfl : mn = 0 := hmn
            obtain rfl : wn = -1 := hst0 (by decide)
            refine at2 (by decide) (by decide) (rd1 (rowU 0) (.int .u64 0) rfl rfl ?_)
            refine at2 (by decide) (by decide) (rd1 (rowU 1) (.int .u64 1) rfl rfl ?_)
            exact rfl
          · obtain rfl : w0 = 1 := hw0
            obtain rfl : w1 = 1 := hw'
            obtain rfl : fd = 1 := hfet
            obtain rfl : mn = 0 := hmn
            obtain rfl : wn = -1 := hst0 (by decide)
            refine at2 (by decide) (by decide) (rd1 (rowU 1) (.int .u64 1) rfl rfl ?_)
            refine at2 (by decide) (by decide) (rd1 (rowU 1) (.int .u64 1) rfl rfl ?_)
            exact rfl
          · obtain rfl : w0 = 2 := hw0
            obtain rfl : w1 = 1 := hw'
            obtain rfl : fd = 1 := hfet
            obtain rfl : mn = 0 := hmn
            have hwn0 := hst1 (by decide)
            refine at2 (by decide) (by decide) (rd1 (rowU 1) (.int .u64 1) rfl rfl ?_)
            refine at2 (by decide) (by decide) (rd1 (rowU 2) (.int .u64 2) rfl rfl ?_)
            refine brc_intro (fun _ => ?_) (fun h => absurd h (by rw [decide_eq_false (show ¬ wn < 0 by omega)]; decide))
            exact rfl
          · obtain rfl : w0 = 2 := hw0
            obtain rfl : w1 = 1 := hw'
            obtain rfl : fd = 1 := hfet
            obtain rfl : mn = 0 := hmn
            have hwn0 := hst1 (by decide)
            refine at2 (by decide) (by decide) (rd1 (rowU 1) (.int .u64 1) rfl rfl ?_)
            refine at2 (by decide) (by decide) (rd1 (rowU 2) (.int .u64 2) rfl rfl ?_)
            refine brc_intro (fun _ => ?_) (fun h => absurd h (by rw [decide_eq_false (show ¬ wn < 0 by omega)]; decide))
            exact rfl
          · obtain rfl : w0 = 2 := hw0
            obtain rfl : w1 = 1 := hw'
            obtain rfl : fd = 1 := hfet
            obtain rfl : mn = 0 := hmn
            have hwn0 := hst1 (by decide)
            refine at2 (by decide) (by decide) (rd1 (rowU 1) (.int .u64 1) rfl rfl ?_)
            refine at2 (by decide) (by decide) (rd1 (rowU 2) (.int .u64 2) rfl rfl ?_)
            refine brc_intro (fun _ => ?_) (fun h => absurd h (by rw [decide_eq_false (show ¬ wn < 0 by omega)]; decide))
            exact rfl
          · obtain rfl : w0 = 2 := hw0
            obtain rfl : w1 = 1 := hw'
            obtain rfl : fd = 1 := hfet
            obtain rfl : mn = 1 := hmn
            have hwn0 := hst1 (by decide)
            refine at2 (by decide) (by decide) (rd1 (rowU 1) (.int .u64 1) rfl rfl ?_)
            refine at2 (by decide) (by decide) (rd1 (rowU 2) (.int .u64 2) rfl rfl ?_)
            refine brc_intro (fun _ => ?_) (fun h => absurd h (by rw [decide_eq_false (show ¬ wn < 0 by omega)]; decide))
            exact rfl

end Go.Mac
