/- A semaphore of one: whoever takes has it alone. -/
import Derived.Test.YtfgmlilpojnnhaaDoorQCounted
open Go Go.Proofs Go.Mac
set_option maxRecDepth 100000
namespace Go.Mac

/-- One thread's calls. -/
def onesL : Nat → List CallZ
  | 0 => []
  | n + 1 => onesL n ++ [⟨3, 0⟩, ⟨4, 0⟩]

theorem onesL_len : ∀ n, (onesL n).length = 2 * n
  | 0 => rfl
  | n + 1 => by rw [onesL, List.length_append, onesL_len n]; simp; omega

theorem onesL_fit : ∀ n, ∀ c ∈ onesL n, semaFit c
  | 0, c, h => by cases h
  | n + 1, c, h => by
    rw [onesL, List.mem_append] at h
    rcases h with h | h
    · exact onesL_fit n c h
    · simp only [List.mem_cons, List.not_mem_nil, or_false] at h
      rcases h with rfl | rfl <;> simp [semaFit]

theorem onesL_alt : ∀ n j, ((onesL n).map gives)[j]? = if j < 2 * n then some (j % 2 == 1) else none
  | 0, j => by simp [onesL]
  | n + 1, j => by
    rw [onesL, List.map_append]
    have hl : ((onesL n).map gives).length = 2 * n := by rw [List.length_map, onesL_len]
    by_cases h : j < 2 * n
    · rw [List.getElem?_append_left (by omega), onesL_alt n j, if_pos h, if_pos (by omega)]
    · rw [List.getElem?_append_right (by omega), hl]
      by_cases h2 : j < 2 * (n + 1)
      · rw [if_pos h2]
        rcases (show j = 2 * n ∨ j = 2 * n + 1 by omega) with rfl | rfl
        · rw [Nat.sub_self, show 2 * n % 2 = 0 by omega]; rfl
        · rw [show 2 * n + 1 - 2 * n = 1 by omega, show (2 * n + 1) % 2 = 1 by omega]; rfl
      · rw [if_neg h2, List.getElem?_eq_none_iff]
        simp; omega

theorem onesL_altL (n : Nat) : altL ((onesL n).map gives) := fun j => by
  rw [onesL_alt, onesL_alt]
  constructor
  · intro h
    split at h
    · have h3 : j % 2 ≠ 1 := by simpa using h
      rw [if_pos (by omega), show (j + 1) % 2 = 1 by omega]; rfl
    · cases h
  · intro h
    split at h
    · have h3 : j % 2 = 1 := by simpa using h
      split
      · rw [show (j + 1) % 2 = 0 by omega]; decide
      · simp
    · cases h

theorem onesL_first (n : Nat) : ((onesL n).map gives)[0]? ≠ some true := by
  rw [onesL_alt]
  split <;> simp

theorem solZ_take (l : List ActZ) (i : Nat) (a : ActZ) (h : l[i]? = some a) : solZ (l.take (i + 1)) = solS (solZ (l.take i)) a := by
  rw [List.take_add_one, h]
  exact solZ_snoc _ _

theorem solZ_none (l : List ActZ) : l.foldl solS none = none := by
  induction l with
  | nil => rfl
  | cons a l ih => rw [List.foldl_cons]; exact ih

theorem solZ_pre {l : List ActZ} {h : Int} (hl : solZ l = some h) (i : Nat) : ∃ g, solZ (l.take i) = some g := by
  cases hg : solZ (l.take i) with
  | some g => exact ⟨g, rfl⟩
  | none =>
    exfalso
    have : solZ l = (l.drop i).foldl solS (solZ (l.take i)) := by
      rw [solZ, solZ, ← List.foldl_append, List.take_append_drop]
    rw [hg, solZ_none, hl] at this
    cases this

theorem gActS {l : List ActZ} {i : Nat} {x : ActZ} (h : l[i]? = some x) : (l.map rowAct)[0 + Int.toNat (i : Int)]? = some (rowAct x) := by simp [h]

theorem semO_ends {B E n : Nat} {R first : Int} {ls : Nat → List Bool} {gs : Nat → GZ} {v : Int} {z : MZ} (h : SemJ B E n R first ls gs v z) (ho : OneJ n ls gs v z.al) (hno : ∀ t, t < z.ts.length → canZ z (t : Int) = false) :
    (∀ x ∈ z.ts, x.dn = true) ∧ solZ z.al = some (-1) ∧ z.el.length = E := by
  obtain ⟨_, w, h1, h2, h3⟩ := ho
  have hd : ∀ t, t < n → hdG (ls t) (gs t) = false := fun t ht => by
    rcases sem_stop h hno ht with hd | hs
    · obtain ⟨r1, r2, r3, _, h4 | ⟨h4, _⟩⟩ := h.th t ht
      · rw [hdG, h4.2, List.getElem?_eq_none_iff.2 (Nat.le_refl _)]; rfl
      · rw [hd] at h4; cases h4
    · rw [slp, List.any_eq_true] at hs
      obtain ⟨s, hs, e⟩ := hs
      obtain ⟨_, h5, h6, _⟩ := h.sl s hs
      have e : s.t = (t : Int) := by simpa using e
      rw [e, Int.toNat_natCast] at h5 h6
      rw [hdG, h5, h6]; rfl
  have hw : w = -1 ∧ v = 1 := by
    rcases h3 with h3 | ⟨h4, h5, h6⟩
    · exact h3
    · exfalso
      obtain ⟨t, rfl⟩ := Int.eq_ofNat_of_zero_le h4
      have := (h2 t (by omega)).2 rfl
      rw [hd t (by omega)] at this
      cases this
  have hs : z.ss = [] := Classical.byContradiction fun hs => by
    have := sem_none h hno hs
    omega
  obtain ⟨a1, a2⟩ := sem_all h hno hs
  refine ⟨a2, hw.1 ▸ h1, ?_⟩
  have he := h.el
  have hz := rsum_zero (n := n) (g := fun t => saG (ls t) (gs t)) fun t ht => (sem_done h ht (a1 t ht)).2.2.2
  rw [hz] at he
  exact he

theorem rsum_same {n c : Nat} {g : Nat → Nat} (h : ∀ t, t < n → g t = c) : rsum n g = n * c := by
  induction n with
  | zero => simp [rsum]
  | succ n ih => rw [rsum_succ, ih fun t ht => h t (by omega), h n (by omega), Nat.succ_mul]

theorem semaOne (a : Int) (_ha : -9223372036854775808 ≤ a ∧ a ≤ 9223372036854775807) (b : Int) (_hb : -9223372036854775808 ≤ b ∧ b ≤ 9223372036854775807) (ms : List MoveZ) :
    Does Tryd.prog 7 [i64 a, i64 b, cv (.slc 0 0 ms.length none false)] [.rows true 2 (ms.map rowMove), rtH] fun v _ _ => v = bl true := by
  refine does Tryd.func7 rfl (by decide) ?_
  change Does Tryd.prog 26 _ _ _
  refine Does.alone 2 (counted ?_)
  refine brc_intro (fun _ => rfl) (fun h => ?_)
  have hms : ms.length ≤ 500 := by
    have := of_decide_eq_false h
    omega
  change Does Tryd.prog 16 _ _ _
  refine Does.alone 2 (pick a 6 (by decide) ?_)
  change Does Tryd.prog 16 _ _ _
  refine Does.alone 2 (pick b 7 (by decide) ?_)
  have hpa := pickZ_lt a (n := 6) (by decide)
  have hpb := pickZ_lt b (n := 7) (by decide)
  rw [wrap_i64 (1 + pickZ a 6) (by omega) (by omega)]
  obtain ⟨n, hn⟩ := Int.eq_ofNat_of_zero_le (show 0 ≤ 1 + pickZ a 6 by omega)
  obtain ⟨c, hc⟩ := Int.eq_ofNat_of_zero_le hpb.1
  have hn6 : n ≤ 6 := by omega
  have hc6 : c ≤ 6 := by omega
  rw [hn, hc]
  clear hn hc hpa hpb
  refine SS.nil2 7 2 rfl ?_
  refine SS.loop (fun i : Nat => i ≤ n) (fun i => [(0, i64 n), (1, i64 c), (2, cv (.slc 0 0 ms.length none false)), (7, cv (.slc 2 0 i none false)), (25, i64 n), (26, i64 i)]) (fun i => [.rows true 2 (ms.map rowMove), rtH, callsH false (List.replicate i (onesL c))]) (fun i => n - i) [2, 3, 4]
    (At.mk' [0, 1, 2, 7, 25, 26] 0 (by simp) ⟨rfl, rfl⟩ rfl rfl (by simp) (by simp) (by simp)) ?_
  intro i hi
  change i ≤ n at hi
  refine S_r ?_
  refine brc_intro (fun hlt => ?_) (fun hlt => ?_)
  · have hlt : i < n := by
      have := of_decide_eq_true hlt
      have : (i : Int) < (n : Int) := this
      omega
    refine SS.nil 8 2 (by decide) rfl ?_
    refine SS.loop (fun j : Nat => j ≤ c) (fun j => [(0, i64 n), (1, i64 c), (2, cv (.slc 0 0 ms.length none false)), (7, cv (.slc 2 0 i none false)), (8, cv (.slc 3 0 (2 * j) none false)), (25, i64 n), (26, i64 i), (28, i64 c), (29, i64 j)]) (fun j => [.rows true 2 (ms.map rowMove), rtH, callsH false (List.replicate i (onesL c)), .rows false 2 ((onesL j).map rowCallZ)]) (fun j => c - j) [2, 3, 4]
      (At.mk' [0, 1, 2, 7, 8, 25, 26, 28, 29] 0 (by simp) ⟨rfl, rfl⟩ rfl rfl (by simp) (by simp) (by simp)) ?_
    intro j hj
    change j ≤ c at hj
    refine S_r ?_
    refine brc_intro (fun hlt2 => ?_) (fun hlt2 => ?_)
    · have hlt2 : j < c := by
        have := of_decide_eq_true hlt2
        have : (j : Int) < (c : Int) := this
        omega
      refine And.intro (by simp) (Or.inl (And.intro rfl (And.intro (by simp [onesL_len]) (And.intro (by show (2 * j + 2) * 16 ≤ _; omega) (And.intro (by show 2 * j + 2 ≤ _; omega) ?_)))))
      refine At.mk' [0, 1, 2, 7, 8, 25, 26, 28, 29] (j + 1) ⟨hlt2, by omega⟩ ⟨?_, rfl⟩ ?_ rfl (by simp) (by simp) (by decide)
      · rw [wrap_i64 (j + 1) (by omega) (by omega)]
        rfl
      · rw [onesL, List.map_append]
        rfl
    · have hlt2 : ¬ (j : Int) < (c : Int) := of_decide_eq_false hlt2
      obtain rfl : j = c := by omega
      refine And.intro (by simp [onesL_len]) (And.intro rfl (And.intro (by simp) (at2 (by show (i + 1) * 24 ≤ _; omega) (by omega) ?_)))
      refine At.mk' [0, 1, 2, 7, 25, 26] (i + 1) ⟨hlt, by omega⟩ ⟨?_, rfl⟩ ?_ rfl (by simp) (by simp) (by decide)
      · rw [wrap_i64 (i + 1) (by omega) (by omega)]
        rfl
      · rw [List.replicate_succ', callsH, List.map_append]
        rfl
  · have hlt : ¬ (i : Int) < (n : Int) := of_decide_eq_false hlt
    obtain rfl : i = n := by omega
    have hcl : ∀ l ∈ List.replicate i (onesL c), l = onesL c := fun l hl => (List.mem_replicate.1 hl).2
    have hc12 : ∀ l ∈ List.replicate i (onesL c), l.length ≤ 12 := fun l hl => by rw [hcl l hl, onesL_len]; omega
    have hcf : ∀ l ∈ List.replicate i (onesL c), ∀ x ∈ l, semaFit x := fun l hl => by rw [hcl l hl]; exact onesL_fit c
    have hI := semO_moves (ll := (List.replicate i (onesL c)).map fun l => l.map gives) (by simp; omega) (fun l hl => by
      obtain ⟨k, hk, rfl⟩ := List.mem_map.1 hl
      rw [List.length_map]; exact hc12 k hk) (fun l hl => by
      obtain ⟨k, hk, rfl⟩ := List.mem_map.1 hl
      rw [hcl k hk]; exact onesL_altL c) (fun l hl => by
      obtain ⟨k, hk, rfl⟩ := List.mem_map.1 hl
      rw [hcl k hk]; exact onesL_first c) ms
    have hE : rsum ((List.replicate i (onesL c)).map fun l => l.map gives).length (fun t => (lsF ((List.replicate i (onesL c)).map fun l => l.map gives) t).length) = i * (2 * c) := by
      rw [List.length_map, List.length_replicate]
      refine rsum_same fun t ht => ?_
      obtain ⟨k, hk, e⟩ := List.mem_map.1 (lsF_mem (ll := (List.replicate i (onesL c)).map fun l => l.map gives) (t := t) (by simpa using ht))
      rw [← e, hcl k hk, List.length_map, onesL_len]
    rw [hE] at hI
    obtain ⟨z, hz⟩ : ∃ z, movesZ (mz0 ((List.replicate i (onesL c)).map semaP) [1]) ms = z := ⟨_, rfl⟩
    have hz' := hz
    rw [show ([1] : List Int) = [((1 : Nat) : Int)] from rfl, semM_calls] at hz'
    rw [show ((1 : Nat) : Int) = 1 from rfl] at hz'
    rw [show semM _ 1 = _ from rfl, hz'] at hI
    have hlen : (List.replicate i (onesL c)).length = i := List.length_replicate
    have hrt := sema_rights hc12
    generalize List.replicate i (onesL c) = calls at hz hcf hc12 hlen hrt hI
    change Does Tryd.prog 17 _ _ _
    refine Does.on 4 [2, 3, 0] _ _ (made (ls := calls) (ps := calls.map semaP) (ws := [1]) (ms := ms) (f := 28) (n := i) (nc := 1) (ro := false) (ro2 := false) (ro3 := true) hlen (by simp [hlen]) rfl rfl (by omega) (by decide) (by omega) hrt (by decide) (hz := hz) (fun i l p hl hp K' hK' => ?_) fun v hv hw => ?_)
    · obtain rfl : semaP l = p := by
        rw [List.getElem?_map, hl] at hp
        exact Option.some.inj hp
      exact semaCode' i i l hl (hc12 l (List.mem_of_getElem? hl)) (hcf l (List.mem_of_getElem? hl)) hK'
    · change Does Tryd.prog 20 _ _ _
      refine Does.on 13 [4, 5, 6, 7, 8, 9, 10, 11, 12] _ _ (fairFinish (m := z) (v := v) hw hv fun v1 _ hv1 hw1 => ?_)
      obtain ⟨gs, u, hJ, hO, hno⟩ := semO_fin hI (by omega)
      obtain ⟨hdn, hfo, hel⟩ := semO_ends hJ hO hno
      have hws := hJ.sys.ws
      have hall := all_ofS hdn
      have hst := stuck_ofS hdn
      clear hJ hO hno
      generalize finish z = z1 at hw1 hdn hfo hel hws hall hst
      have hal1 := hw1.al
      have hk1 := hw1.k
      have hel1 := hw1.el
      change Does Tryd.prog 25 _ _ _
      refine Does.on 13 [4, 5, 6, 7, 8, 9, 10, 11, 12] _ _ (coreActs (m := z1) (v := v1) (by omega) ?_)
      refine SS.loop (fun p : Nat × Int => p.1 ≤ z1.al.length ∧ solZ (z1.al.take p.1) = some p.2) (fun p => [(0, i64 i), (1, i64 c), (9, cv (.ptr 4 0)), (10, i64 p.2), (51, cv (.slc 13 0 z1.al.length none false)), (52, i64 z1.al.length), (53, i64 p.1)])
        (fun _ => [.rows true 2 (ms.map rowMove), rtH, callsH false calls, .rows false 1 [rowU 1]] ++ machS 4 z1 v1 ++ [.rows false 6 (z1.al.map rowAct)]) (fun p => z1.al.length - p.1) [2, 3, 4, 10, 11, 12]
        (At.mk' [0, 1, 9, 10, 51, 52, 53] (0, -1) ⟨by simp, rfl⟩ ⟨rfl, rfl⟩ rfl rfl (by simp) (by simp) (by decide)) ?_
      rintro ⟨p, g⟩ ⟨hp, hg⟩
      change p ≤ z1.al.length at hp
      change solZ (z1.al.take p) = some g at hg
      refine S_r ?_
      refine brc_intro (fun hlt => ?_) (fun hlt => ?_)
      · have hlt2 : p < z1.al.length := by
          have := of_decide_eq_true hlt
          have : (p : Int) < (z1.al.length : Int) := this
          omega
        obtain ⟨a, ha⟩ : ∃ a, z1.al[p]? = some a := ⟨_, List.getElem?_eq_getElem hlt2⟩
        have hnx := solZ_take z1.al p a ha
        obtain ⟨g', hg'⟩ := solZ_pre hfo (p + 1)
        rw [hg', hg, solS] at hnx
        try dsimp only at hnx
        have wr : IntKind.i64.wrap ((p : Int) + 1) = ((p + 1 : Nat) : Int) := wrap_i64 _ (by omega) (by omega)
        refine SS.inlR ?_
        refine at2 (a := (0 : Int) ≤ (p : Int)) (b := (p : Int) < (z1.al.length : Int)) (by omega) (by omega) (rdA (rowAct a) (gActS ha) ?_)
        refine brc_intro (fun h9 => ?_) (fun h9 => ?_)
        · have h9 : a.o = 9 := by simpa using h9
          refine brc_intro (fun hxy => ?_) (fun hxy => ?_)
          · have hxy : a.x ≠ a.y := by simpa using hxy
            rw [if_pos ⟨h9, hxy⟩] at hnx
            refine brc_intro (fun h0 => ?_) (fun h0 => ?_)
            · have h0 : 0 ≤ g := of_decide_eq_true h0
              rw [if_pos h0] at hnx
              cases hnx
            · have h0 : ¬ 0 ≤ g := of_decide_eq_false h0
              rw [if_neg h0] at hnx
              obtain rfl := Option.some.inj hnx
              refine brc_intro (fun h8 => ?_) (fun _ => ?_)
              · exact absurd (show a.o = 8 by simpa using h8) (by omega)
              · refine At.mk' [0, 1, 9, 10, 51, 52, 53] (p + 1, a.t) ⟨⟨hlt2, hg'⟩, by show z1.al.length - (p + 1) < z1.al.length - p; omega⟩ ⟨?_, rfl⟩ rfl rfl (by simp) (by simp) (by decide)
                rw [wr]
          · have hxy : a.x = a.y := by simpa using hxy
            rw [if_neg (fun h => h.2 hxy), if_neg (by omega)] at hnx
            obtain rfl := Option.some.inj hnx
            refine brc_intro (fun h8 => ?_) (fun _ => ?_)
            · exact absurd (show a.o = 8 by simpa using h8) (by omega)
            · refine At.mk' [0, 1, 9, 10, 51, 52, 53] (p + 1, g') ⟨⟨hlt2, hg'⟩, by show z1.al.length - (p + 1) < z1.al.length - p; omega⟩ ⟨?_, rfl⟩ rfl rfl (by simp) (by simp) (by decide)
              rw [wr]
        · have h9 : a.o ≠ 9 := by simpa using h9
          rw [if_neg (fun h => h9 h.1)] at hnx
          refine brc_intro (fun h8 => ?_) (fun h8 => ?_)
          · have h8 : a.o = 8 := by simpa using h8
            rw [if_pos h8] at hnx
            refine brc_intro (fun ht => ?_) (fun ht => ?_)
            · have ht : g ≠ a.t := by simpa using ht
              rw [if_neg ht] at hnx
              cases hnx
            · have ht : g = a.t := by simpa using ht
              rw [if_pos ht] at hnx
              obtain rfl := Option.some.inj hnx
              refine At.mk' [0, 1, 9, 10, 51, 52, 53] (p + 1, -1) ⟨⟨hlt2, hg'⟩, by show z1.al.length - (p + 1) < z1.al.length - p; omega⟩ ⟨?_, rfl⟩ rfl rfl (by simp) (by simp) (by decide)
              rw [wr]
          · have h8 : a.o ≠ 8 := by simpa using h8
            rw [if_neg h8] at hnx
            obtain rfl := Option.some.inj hnx
            refine At.mk' [0, 1, 9, 10, 51, 52, 53] (p + 1, g') ⟨⟨hlt2, hg'⟩, by show z1.al.length - (p + 1) < z1.al.length - p; omega⟩ ⟨?_, rfl⟩ rfl rfl (by simp) (by simp) (by decide)
            rw [wr]
      · have hlt : ¬ (p : Int) < (z1.al.length : Int) := of_decide_eq_false hlt
        obtain rfl : p = z1.al.length := by omega
        rw [List.take_length, hfo] at hg
        obtain rfl := Option.some.inj hg
        change Does Tryd.prog 21 _ _ _
        refine Does.on 14 [4, 5, 6, 7, 8, 9, 10, 11, 12] _ _ (coreEnds (m := z1) (v := v1) hw1 ?_)
        rw [hall]
        change Does Tryd.prog 24 _ _ _
        refine Does.on 14 [4, 5, 6, 7, 8, 9, 10, 11, 12] _ _ (coreEvents (m := z1) (v := v1) (by omega) ?_)
        refine fin (show ((z1.el.length : Int) == IntKind.i64.wrap (IntKind.i64.wrap (2 * (i : Int)) * (c : Int))) = true from ?_)
        have hb : i * c ≤ 6 * 6 := Nat.mul_le_mul hn6 hc6
        have e2 : ((2 * i * c : Nat) : Int) = 2 * (i : Int) * (c : Int) := by rw [Int.natCast_mul, Int.natCast_mul]; rfl
        have e3 : (2 * i * c : Nat) = 2 * (i * c) := Nat.mul_assoc 2 i c
        have e4 : i * (2 * c) = 2 * (i * c) := Nat.mul_left_comm i 2 c
        rw [wrap_i64 (2 * (i : Int)) (by omega) (by omega), ← e2, wrap_i64 ((2 * i * c : Nat) : Int) (by omega) (by omega), hel, e3, e4]
        simp

end Go.Mac
