/- In the end at most one is left, whose offer stands, and words came in pairs. -/
import Derived.Test.YtnkmddcadkcdcaaDoorQTrL
open Go Go.Proofs Go.Mac
set_option maxRecDepth 100000
namespace Go.Mac

def openN (z : MZ) (i : Nat) : Nat := rsum i fun t => if (thZ z t).dn = true then 0 else 1

theorem openN_le (z : MZ) (i : Nat) : openN z i ≤ i := by
  have := rsum_const i 1 (fun t => if (thZ z t).dn = true then 0 else 1) fun s _ => by split <;> omega
  rw [openN]; omega

theorem openN_one {z : MZ} {n : Nat} (hu : ∀ t s, t < n → s < n → (thZ z t).dn = false → (thZ z s).dn = false → t = s) : openN z n ≤ 1 := by
  induction n with
  | zero => simp [openN, rsum]
  | succ n ih =>
    rw [openN, rsum_succ]
    cases h : (thZ z n).dn with
    | true =>
      have := ih fun t s ht hs => hu t s (by omega) (by omega)
      rw [openN] at this
      simp only [if_true]
      omega
    | false =>
      have : rsum n (fun t => if (thZ z t).dn = true then 0 else 1) = 0 := rsum_zero fun s hs => by
        cases h2 : (thZ z s).dn with
        | true => rfl
        | false => exact absurd (hu s n (by omega) (by omega) h2 h) (by omega)
      rw [this]
      simp

theorem openN_iff {z : MZ} {n : Nat} : (1 ≤ openN z n) ↔ ∃ t, t < n ∧ (thZ z t).dn = false := by
  constructor
  · intro h
    obtain ⟨t, ht, h1⟩ := rsum_pos h
    refine ⟨t, ht, ?_⟩
    cases h2 : (thZ z t).dn with
    | true => rw [h2] at h1; simp at h1
    | false => rfl
  · rintro ⟨t, ht, h1⟩
    have := rsum_one (n := n) (t := t) (g := fun t => if (thZ z t).dn = true then 0 else 1) ht
    simp only [h1] at this
    rw [openN]
    simp at this
    exact this

theorem told_le {n m : Nat} {el : List EvZ} (h : el.length ≤ m) : told n el ≤ n * m :=
  rsum_const n m _ fun t _ => Nat.le_trans (ansT_len t el) h

section
variable {K : AV → List Nat → List PO → Prop}

theorem endsIdx {ws : List Int} {n : Nat} {ro nn : Bool} {c : Option Nat} (hn : ws.length = n + 1) (hb : n ≤ 1000000) (he : ∀ k : Nat, 1 ≤ k → k ≤ n → rgZ ws k = 0) (h : K (i64 (-1)) [] [.rows ro 1 (ws.map rowU)]) :
    Does Tryd.prog 85 [cv (.slc 0 1 n c nn), cv (.func 53 [])] [.rows ro 1 (ws.map rowU)] K := by
  refine does Tryd.func85 rfl (by decide) ?_
  refine SS.loop (fun i : Nat => i ≤ n) (fun i => [(0, cv (.slc 0 1 n c nn)), (1, cv (.func 53 [])), (7, i64 n), (8, i64 i)]) (fun _ => [.rows ro 1 (ws.map rowU)]) (fun i => n - i) []
    (At.mk' [0, 1, 7, 8] 0 (by simp) ⟨rfl, rfl⟩ rfl rfl (by simp) (by simp) (by simp)) ?_
  intro i hi
  change i ≤ n at hi
  refine S_r ?_
  refine brc_intro (fun hlt => ?_) (fun hlt => ?_)
  · have hlt : i < n := by
      have := of_decide_eq_true hlt
      have : (i : Int) < (n : Int) := this
      omega
    have hz := he (i + 1) (by omega) (by omega)
    have hg : ws[1 + Int.toNat (i : Int)]? = some 0 := by
      rw [Int.toNat_natCast, show 1 + i = i + 1 by omega, List.getElem?_eq_getElem (by omega)]
      rw [rgZ, Int.toNat_natCast, List.getD_eq_getElem?_getD, List.getElem?_eq_getElem (by omega)] at hz
      exact congrArg some hz
    have wr : IntKind.i64.wrap ((i : Int) + 1) = ((i + 1 : Nat) : Int) := wrap_i64 _ (by omega) (by omega)
    refine SS.inlR ?_
    refine at2 (a := (0 : Int) ≤ (i : Int)) (b := (i : Int) < (n : Int)) (by omega) (by omega) (rd1 (rowU 0) (.int .u64 0) (by rw [List.getElem?_map, hg]; rfl) rfl ?_)
    change Does Tryd.prog 53 _ _ _
    refine does Tryd.func53 rfl (by decide) ?_
    refine At.mk' [0, 1, 7, 8] (i + 1) ⟨hlt, by omega⟩ ⟨?_, rfl⟩ rfl rfl (by simp) (by simp) (by simp)
    rw [wr]
  · exact h

theorem endsAny {ws : List Int} {n : Nat} {ro nn : Bool} {c : Option Nat} (hn : ws.length = n + 1) (hb : n ≤ 1000000) (he : ∀ k : Nat, 1 ≤ k → k ≤ n → rgZ ws k = 0) (h : K (bl false) [] [.rows ro 1 (ws.map rowU)]) :
    Does Tryd.prog 52 [cv (.slc 0 1 n c nn), cv (.func 53 [])] [.rows ro 1 (ws.map rowU)] K := by
  refine does Tryd.func52 rfl (by decide) ?_
  change Does Tryd.prog 85 _ _ _
  refine endsIdx hn hb he ?_
  exact h

end

set_option maxHeartbeats 2000000 in
theorem tradeEnds (l : List (List Int)) (_hw : ∀ xs ∈ l, ∀ x ∈ xs, -9223372036854775808 ≤ x ∧ x ≤ 9223372036854775807) (hl : l.length ≤ 9223372036854775807) (hm : ∀ xs ∈ l, xs.length ≤ 9223372036854775807) (ms : List MoveZ) :
    Does Tryd.prog 15 [cv (.slc 0 0 l.length none false), cv (.slc 1 0 ms.length none false)] [.rows2 true 1 (l.map fun xs => xs.map rowZ), .rows true 2 (ms.map rowMove), rtH] fun v _ _ => v = bl true := by
  refine does Tryd.func15 rfl (by decide) ?_
  change Does Tryd.prog 49 _ _ _
  refine Does.alone 3 (swapped ?_)
  refine brc_intro (fun _ => rfl) (fun h => ?_)
  have hms : ms.length ≤ 500 := by
    have := of_decide_eq_false h
    omega
  change Does Tryd.prog 50 _ _ _
  refine Does.on 3 [0] _ _ (trades (l := l) rfl hl hm ?_)
  obtain ⟨hn, hpl, hr, hpi, hI⟩ := trades_made l ms
  have hfit := fun i x => trades_fit l (i := i) (x := x)
  generalize tradesZ l = calls at hn hpi hfit ⊢
  generalize ((trdsL l).map fun l => catP (l.map trdB)) = ps at hpl hr hpi hI
  generalize lsQ (trdsL l) = lq at hI
  have hn8 : min l.length 8 ≤ 8 := by omega
  generalize min l.length 8 = n at hn hpl hn8 hI ⊢
  obtain ⟨z, hz⟩ : ∃ z, movesZ (mz0 ps slots0) ms = z := ⟨_, rfl⟩
  rw [hz] at hI
  refine And.intro (by decide) (And.intro (by decide) (And.intro (by decide) (And.intro (by decide) ?_)))
  change Does Tryd.prog 24 _ _ _
  refine Does.on 5 [3, 4, 1] _ _ (made (ls := calls) (ps := ps) (ws := slots0) (ms := ms) (f := 51) (n := n) (nc := 17) (ro := false) (ro2 := false) (ro3 := true) hn hpl rfl rfl (by omega) (by decide) (by omega) hr (by decide) (hz := hz) (fun i x p hx hp K' hK' => ?_) fun v hv hw => ?_)
  · obtain ⟨hi8, j, hj, rfl⟩ := hfit i x hx
    obtain rfl := hpi i _ p hx hp
    exact tradeCode' i (by omega) i _ hx (by rw [tradJ_len]; omega) (tradJ_fit hi8 hj) hK'
  change Does Tryd.prog 27 _ _ _
  refine Does.on 14 [5, 6, 7, 8, 9, 10, 11, 12, 13] _ _ (fairFinish (m := z) (v := v) hw hv fun v1 _ hv1 hw1 => ?_)
  obtain ⟨cs, f1, f2, f3, f4, f5, f6, f7⟩ := tr_fin hI (by omega)
  generalize finish z = z1 at hw1 f1 f4 f5 f6 f7
  clear hI hz hr hpi hw
  have hel : z1.el.length ≤ 20000 := Nat.le_trans hw1.el hw1.k
  have ho1 := openN_one f4
  have ho2 := (openN_iff (z := z1) (n := n)).symm
  rw [← f5] at ho2
  clear f4 f5
  refine SS.loop (fun i : Nat => i ≤ n) (fun i => [(5, cv (.slc 3 0 n none false)), (6, cv (.ptr 5 0)), (7, i64 (openN z1 i)), (32, i64 n), (33, i64 i)])
    (fun _ => [.rows2 true 1 (l.map fun xs => xs.map rowZ), .rows true 2 (ms.map rowMove), rtH, callsH false calls, .rows false 1 (slots0.map rowU)] ++ machS 5 z1 v1) (fun i => n - i) [2, 11, 12, 13]
    (At.mk' [5, 6, 7, 32, 33] 0 (by simp) ⟨rfl, rfl⟩ rfl rfl (by simp) (by simp) (by decide)) ?_
  intro i hi
  change i ≤ n at hi
  refine S_r ?_
  refine brc_intro (fun hlt => ?_) (fun hlt => ?_)
  · have hlt2 : i < n := by
      have := of_decide_eq_true hlt
      have : (i : Int) < (n : Int) := this
      omega
    have wr : IntKind.i64.wrap ((i : Int) + 1) = ((i + 1 : Nat) : Int) := wrap_i64 _ (by omega) (by omega)
    have hsu : openN z1 (i + 1) = openN z1 i + if (thZ z1 i).dn = true then 0 else 1 := rsum_succ _ _
    have hoi := openN_le z1 i
    refine SS.inlR ?_
    change Does Tryd.prog 48 _ _ _
    refine Does.on 14 [5, 6, 7, 8, 9, 10, 11, 12, 13] _ _ (coreAt (m := z1) (v := v1) hw1 (i : Int) (fun h => ?_) (fun _ h => ?_) fun _ h => ?_)
    · exfalso; rw [f7] at h; omega
    · rw [Int.toNat_natCast] at h
      rw [h, if_pos rfl] at hsu
      refine At.mk' [5, 6, 7, 32, 33] (i + 1) ⟨hlt2, by omega⟩ ⟨?_, rfl⟩ rfl rfl (by simp) (by simp) (by decide)
      rw [wr, hsu]
      rfl
    · rw [Int.toNat_natCast] at h
      rw [h, if_neg (by decide)] at hsu
      have wr2 : IntKind.i64.wrap ((openN z1 i : Int) + 1) = ((openN z1 i + 1 : Nat) : Int) := wrap_i64 _ (by omega) (by omega)
      refine At.mk' [5, 6, 7, 32, 33] (i + 1) ⟨hlt2, by omega⟩ ⟨?_, rfl⟩ rfl rfl (by simp) (by simp) (by decide)
      rw [wr, wr2, hsu]
  · have hlt : ¬ (i : Int) < (n : Int) := of_decide_eq_false hlt
    obtain rfl : i = n := by omega
    generalize openN z1 i = op at ho1 ho2
    change Does Tryd.prog 30 _ _ _
    refine Does.on 14 [5, 6, 7, 8, 9, 10, 11, 12, 13] _ _ (answers (m := z1) (v := v1) hw1 i (by omega) ?_)
    have hrow : ∀ t, t < i → ((ansL i z1.el).map fun l => l.map rowZ)[t]? = some ((ansT t z1.el).map rowZ) := fun t ht => by
      rw [List.getElem?_map, ansL, List.getElem?_map, List.getElem?_range ht]
      rfl
    have hrl : ((ansL i z1.el).map fun l => l.map rowZ).length = i := by simp [ansL]
    generalize ((ansL i z1.el).map fun l => l.map rowZ) = rss at hrow hrl ⊢
    refine SS.loop (fun t : Nat => t ≤ i) (fun t => [(5, cv (.slc 3 0 i none false)), (6, cv (.ptr 5 0)), (7, i64 op), (12, i64 (told t z1.el)), (51, cv (.slc 14 0 i none true)), (52, i64 i), (53, i64 t)])
      (fun _ => [.rows2 true 1 (l.map fun xs => xs.map rowZ), .rows true 2 (ms.map rowMove), rtH, callsH false calls, .rows false 1 (slots0.map rowU)] ++ machS 5 z1 v1 ++ [.rows2 false 1 rss]) (fun t => i - t) [2, 11, 12, 13]
      (At.mk' [5, 6, 7, 12, 51, 52, 53] 0 (by simp) ⟨rfl, rfl⟩ rfl rfl (by simp) (by simp) (by decide)) ?_
    intro t ht
    change t ≤ i at ht
    refine S_r ?_
    refine brc_intro (fun hlt => ?_) (fun hlt => ?_)
    · have hlt2 : t < i := by
        have := of_decide_eq_true hlt
        have : (t : Int) < (i : Int) := this
        omega
      have wr : IntKind.i64.wrap ((t : Int) + 1) = ((t + 1 : Nat) : Int) := wrap_i64 _ (by omega) (by omega)
      have hto := told_le (n := t) hel
      have htb : t * 20000 ≤ 8 * 20000 := Nat.mul_le_mul_right _ (by omega)
      have hal := ansT_len t z1.el
      have hsu : told (t + 1) z1.el = told t z1.el + (ansT t z1.el).length := rsum_succ _ _
      have hrt : rss[0 + Int.toNat (t : Int)]? = some ((ansT t z1.el).map rowZ) := by rw [Nat.zero_add, Int.toNat_natCast]; exact hrow t hlt2
      have hlm : ((ansT t z1.el).map rowZ).length = (ansT t z1.el).length := List.length_map ..
      have wr2 : IntKind.i64.wrap ((told t z1.el : Int) + (((ansT t z1.el).map rowZ).length : Int)) = ((told (t + 1) z1.el : Nat) : Int) := by rw [hlm, hsu, wrap_i64 _ (by omega) (by omega)]; rfl
      refine at2 (a := (0 : Int) ≤ (t : Int)) (b := (t : Int) < (i : Int)) (by omega) (by omega) ?_
      refine Exists.intro ((ansT t z1.el).map rowZ) (And.intro hrt ?_)
      refine At.mk' [5, 6, 7, 12, 51, 52, 53] (t + 1) ⟨hlt2, by omega⟩ ⟨?_, rfl⟩ rfl rfl (by simp) (by simp) (by decide)
      rw [wr, wr2]
    · have hlt : ¬ (t : Int) < (i : Int) := of_decide_eq_false hlt
      obtain rfl : t = i := by omega
      obtain ⟨q, hq⟩ := f6
      rw [hq]
      change Does Tryd.prog 33 _ _ _
      refine Does.on 15 [5, 6, 7, 8, 9, 10, 11, 12, 13] _ _ (coreCellsL (m := z1) (v := v1) hw1 f1 ?_)
      rw [f2]
      refine brc_intro (fun h1 => ?_) (fun h1 => ?_)
      · refine brc_intro (fun h2 => ?_) (fun h2 => ?_)
        · have hg : (cs.map rowU)[0]? = some (rowU (rgZ cs 0)) := by
            rw [List.getElem?_map, List.getElem?_eq_getElem (by omega)]
            rw [rgZ, show Int.toNat 0 = 0 from rfl, List.getD_eq_getElem?_getD, List.getElem?_eq_getElem (by omega)]
            rfl
          refine at2 (by decide) (by decide) (rd1 (rowU (rgZ cs 0)) (.int .u64 (rgZ cs 0)) hg rfl ?_)
          refine brc_intro (fun h3 => ?_) (fun h3 => ?_)
          · refine Or.inl (at2 (by decide) (by decide) ?_)
            change Does Tryd.prog 52 _ _ _
            refine Does.on 16 [15] _ _ (endsAny (ws := cs) (n := 16) f2 (by decide) f3 ?_)
            exact rfl
          · exfalso
            have h3 : ((rgZ cs 0 != 0) == ((op : Int) == 1)) = false := h3
            by_cases h0 : rgZ cs 0 = 0
            · have : ¬ 1 ≤ op := fun h => (ho2.2 h) h0
              have hop : op = 0 := by omega
              rw [h0, hop] at h3
              cases h3
            · have : 1 ≤ op := ho2.1 h0
              have hop : op = 1 := by omega
              rw [hop] at h3
              have e : (rgZ cs 0 != 0) = true := by simpa using h0
              rw [e] at h3
              cases h3
        · exfalso
          have h2 : (Int.tmod ((2 * q : Nat) : Int) 2 == 0) = false := h2
          have e : Int.tmod ((2 * q : Nat) : Int) 2 = 0 := by
            rw [Int.natCast_mul]
            exact Int.mul_tmod_right 2 q
          rw [e] at h2
          cases h2
      · exfalso
        have h1 := of_decide_eq_false h1
        have h1 : ¬ (op : Int) ≤ 1 := h1
        omega

end Go.Mac
