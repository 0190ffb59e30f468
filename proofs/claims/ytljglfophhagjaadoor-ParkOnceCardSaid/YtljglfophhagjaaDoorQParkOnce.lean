/- Lots: nobody sleeps twice. -/
import Derived.Test.YtljglfophhagjaaDoorQParkPokes
import Derived.Test.YtljglfophhagjaaDoorQTell
open Go Go.Proofs Go.Mac
set_option maxRecDepth 100000
namespace Go.Mac

theorem hasT.cut {ss : List Slp} {t : Int} {i : Nat} {x : Slp} (h : hasT ss t i x) : ss = ss.take i ++ x :: ss.drop (i + 1) ∧ noT (ss.take i) t := by
  obtain ⟨hx, hxt, hno⟩ := h
  have hi := (List.getElem?_eq_some_iff.1 hx).1
  refine ⟨?_, fun y hy => ?_⟩
  · conv => lhs; rw [← List.take_append_drop i ss, List.drop_eq_getElem_cons hi]
    rw [(List.getElem?_eq_some_iff.1 hx).2]
  · obtain ⟨j, hj⟩ := List.mem_iff_getElem?.1 hy
    have hji := (List.getElem?_eq_some_iff.1 hj).1
    rw [List.length_take] at hji
    rw [List.getElem?_take_of_lt (by omega)] at hj
    exact hno j y (by omega) hj

/-- How often a thread sleeps, at the first c cells. -/
def plc (t : Int) (ss : List Slp) : Nat → Nat
  | 0 => 0
  | c + 1 => plc t ss c + (atL c ss).count t

theorem count_no {ss : List Slp} {t : Int} (h : noT ss t) (c : Int) : (atL c ss).count t = 0 := by
  refine List.count_eq_zero.2 fun hm => ?_
  obtain ⟨x, hx, e⟩ := List.mem_map.1 hm
  exact h x (List.mem_filter.1 hx).1 e

theorem count_has {pre post : List Slp} {x : Slp} (h1 : noT pre x.t) (h2 : noT post x.t) (c : Int) : (atL c (pre ++ x :: post)).count x.t = if x.c = c then 1 else 0 := by
  rw [atL_append, atL_cons, List.count_append, List.count_append, count_no h1, count_no h2]
  split <;> simp

theorem plc_no {ss : List Slp} {t : Int} (h : noT ss t) : ∀ c, plc t ss c = 0
  | 0 => rfl
  | c + 1 => by rw [plc, plc_no h c, count_no h]

theorem plc_has {ss : List Slp} {t : Int} {i : Nat} {x : Slp} (h : hasT ss t i x) (ho : onceL ss) (hc : 0 ≤ x.c ∧ x.c < 4) : plc t ss 4 = 1 := by
  obtain ⟨e, h1⟩ := h.cut
  obtain rfl := h.2.1
  have h2 : noT (ss.drop (i + 1)) x.t := by
    rw [e] at ho
    exact once_split ho
  have hk : ∀ c : Int, (atL c ss).count x.t = if x.c = c then 1 else 0 := fun c => by
    conv => lhs; rw [e]
    exact count_has h1 h2 c
  show 0 + (atL ((0 : Nat) : Int) ss).count x.t + (atL ((1 : Nat) : Int) ss).count x.t + (atL ((2 : Nat) : Int) ss).count x.t + (atL ((3 : Nat) : Int) ss).count x.t = 1
  rw [hk, hk, hk, hk]
  have : x.c = 0 ∨ x.c = 1 ∨ x.c = 2 ∨ x.c = 3 := by omega
  rcases this with e | e | e | e <;> rw [e] <;> decide

theorem has_at {ss : List Slp} {t : Int} {i : Nat} {x : Slp} (h : hasT ss t i x) : t ∈ atL x.c ss :=
  List.mem_map.2 ⟨x, List.mem_filter.2 ⟨List.mem_iff_getElem?.2 ⟨i, h.1⟩, by simp⟩, h.2.1⟩

theorem has_or (ss : List Slp) (t : Int) : noT ss t ∨ ∃ i x, hasT ss t i x := by
  by_cases h : noT ss t
  · exact .inl h
  · exact .inr (hasT_of h)

section
variable {K : AV → List Nat → List PO → Prop}

theorem indexInt {xs : List Int} {c : Option Nat} {nn ro : Bool} (t : Int) (hn : xs.length < 1000000) (hm : t ∈ xs) (h : ∀ i : Nat, K (i64 i) [] [.rows ro 1 (xs.map rowZ)]) :
    Does Tryd.prog 43 [cv (.slc 0 0 xs.length c nn), i64 t] [.rows ro 1 (xs.map rowZ)] K := by
  refine does Tryd.func43 rfl (by decide) ?_
  refine SS.loop (fun i : Nat => i ≤ xs.length ∧ ∀ (j : Nat) (x : Int), j < i → xs[j]? = some x → x ≠ t) (fun i => [(0, cv (.slc 0 0 xs.length c nn)), (1, i64 t), (7, i64 xs.length), (8, i64 i)]) (fun _ => [.rows ro 1 (xs.map rowZ)]) (fun i => xs.length - i) []
    (At.mk' [0, 1, 7, 8] 0 (by simp) ⟨rfl, rfl⟩ rfl rfl (by simp) (by simp) (by simp)) ?_
  rintro i ⟨hi, hj⟩
  refine S_r ?_
  refine brc_intro (fun hlt => ?_) (fun hlt => ?_)
  · have hlt : i < xs.length := by have := of_decide_eq_true hlt; omega
    obtain ⟨x, hx⟩ : ∃ x, xs[i]? = some x := ⟨_, List.getElem?_eq_getElem (by omega)⟩
    refine SS.inlR ?_
    refine at2 (by omega) (by omega) (rd1 (rowZ x) (.int .i64 x) (gz hx) rfl ?_)
    refine brc_intro (fun _ => h i) (fun h' => ?_)
    have e : t ≠ x := by simpa using h'
    refine At.mk' [0, 1, 7, 8] (i + 1) ⟨⟨hlt, fun j y hj' hy => ?_⟩, by omega⟩ ⟨?_, rfl⟩ rfl rfl (by simp) (by simp) (by simp)
    · rcases Nat.lt_succ_iff_lt_or_eq.1 hj' with hl | rfl
      · exact hj j y hl hy
      · rw [hx] at hy; cases hy; exact Ne.symm e
    · rw [wrap_i64 (i + 1) (by omega) (by omega)]
      rfl
  · have hlt : ¬ (i : Int) < (xs.length : Int) := of_decide_eq_false hlt
    obtain ⟨j, hj'⟩ := List.mem_iff_getElem?.1 hm
    have := (List.getElem?_eq_some_iff.1 hj').1
    exact absurd rfl (hj j t (by omega) hj')

theorem containsInt {xs : List Int} {c : Option Nat} {nn ro : Bool} (t : Int) (hn : xs.length < 1000000) (hm : t ∈ xs) (h : K (bl true) [] [.rows ro 1 (xs.map rowZ)]) :
    Does Tryd.prog 20 [cv (.slc 0 0 xs.length c nn), i64 t] [.rows ro 1 (xs.map rowZ)] K := by
  refine does Tryd.func20 rfl (by decide) ?_
  change Does Tryd.prog 43 _ _ _
  refine indexInt t hn hm fun i => ?_
  exact h

end

theorem hasT_inj {ss : List Slp} {t : Int} {i j : Nat} {x y : Slp} (h : hasT ss t i x) (h' : hasT ss t j y) : x = y := by
  rcases Nat.lt_trichotomy i j with e | e | e
  · exact absurd h.2.1 (h'.2.2 i x e h.1)
  · subst e
    exact Option.some.inj (h.1.symm.trans h'.1)
  · exact absurd h'.2.1 (h.2.2 j y e h'.1)

theorem lotCell2 {K : AV → List Nat → List PO → Prop} {n : Int} {k : Nat} {nn : Bool} {ss ex : List Slp} (t : Int) (hk : ss.length = k) (hn : k < 4611686018427387904)
    (h : ∀ a : Int, (noT ss t ∧ a = -1 ∨ ∃ i x, hasT ss t i x ∧ a = x.c) → K (i64 a) [] (lotH n k nn ss ex)) : Does Tryd.prog 18 [cv (.ptr 0 0), i64 t] (lotH n k nn ss ex) K :=
  lotCell t hk hn (fun i x hx => h _ (.inr ⟨i, x, hx, rfl⟩)) fun hno => h _ (.inl ⟨hno, rfl⟩)

theorem count_take {l : List Int} {t : Int} {j : Nat} {y : Int} (h : l[j]? = some y) : (l.take (j + 1)).count t = (l.take j).count t + if y = t then 1 else 0 := by
  rw [List.take_add_one, h, List.count_append]
  simp [List.count_cons]

theorem parkOnce (l : List NodZ) (t : Int) (_ht : -9223372036854775808 ≤ t ∧ t ≤ 9223372036854775807) (cl : Int) (_hc : -9223372036854775808 ≤ cl ∧ cl ≤ 9223372036854775807) :
    Does Tryd.prog 4 [cv (.slc 0 0 l.length none false), i64 t, i64 cl] [.rows true 3 (l.map rowNodZ), rtH] fun v _ _ => v = bl true := by
  refine does Tryd.func4 rfl (by decide) ?_
  change Does Tryd.prog 16 _ _ _
  refine Does.alone 2 (asleep ?_)
  refine brc_intro (fun _ => fin rfl) (fun h => ?_)
  have hl : l.length ≤ 60 := by have := of_decide_eq_false h; omega
  change Does Tryd.prog 17 _ _ _
  refine Does.on 2 [0] _ _ (bed l hl fun nn ex hex => ?_)
  have hb := bedL_len l l.length
  have hon := onceL_bed l
  have hce := bedL_cell l
  rw [List.take_length] at hb
  generalize bedL l = ss at *
  change Does Tryd.prog 13 _ _ _
  refine Does.alone 4 (pick t 16 (by decide) ?_)
  change Does Tryd.prog 13 _ _ _
  refine Does.alone 4 (pick cl 4 (by decide) ?_)
  have ht := pickZ_lt t (n := 16) (by decide)
  have hcl := pickZ_lt cl (n := 4) (by decide)
  generalize pickZ t 16 = t at *
  generalize pickZ cl 4 = cl at *
  change Does Tryd.prog 18 _ _ _
  refine Does.on 4 [2, 3] _ _ (lotCell2 (n := 16) (k := ss.length) (nn := nn) (ss := ss) (ex := ex) t rfl (by omega) fun a ha => ?_)
  refine SS.loop (fun c : Nat => c ≤ 4) (fun c => [(1, i64 t), (2, i64 cl), (7, cv (.ptr 2 0)), (8, i64 a), (9, i64 (plc t ss c)), (29, i64 c)]) (fun _ => [.rows true 3 (l.map rowNodZ), rtH, .one [.f (.int .i64 16), .slc 3 0 ss.length none nn], .rows false 2 ((ss ++ ex).map rowS)]) (fun c => 4 - c) []
    (At.mk' [1, 2, 7, 8, 9, 29] 0 (by decide) ⟨rfl, rfl⟩ rfl rfl (by simp) (by simp) (by simp)) ?_
  intro c hc
  change c ≤ 4 at hc
  refine S_r ?_
  refine brc_intro (fun hlt => ?_) (fun hlt => ?_)
  · have hlt : c < 4 := by
      have := of_decide_eq_true hlt
      have : (c : Int) < 4 := this
      omega
    change Does Tryd.prog 19 _ _ _
    refine Does.on 4 [2, 3] _ _ (lotAt (n := 16) (k := ss.length) (nn := nn) (ss := ss) (ex := ex) c rfl (by omega) ?_)
    have hla := atL_le c ss
    have hpl : plc t ss c ≤ 240 := by
      have : ∀ c : Nat, plc t ss c ≤ 60 * c := fun c => by
        induction c with
        | zero => exact Nat.zero_le _
        | succ c ih =>
          have h1 : (atL c ss).count t ≤ (atL c ss).length := List.count_le_length
          have h2 := atL_le c ss
          rw [plc]; omega
      have := this c
      omega
    refine SS.loop (fun j : Nat => j ≤ (atL c ss).length) (fun j => [(1, i64 t), (2, i64 cl), (7, cv (.ptr 2 0)), (8, i64 a), (9, i64 ((plc t ss c + ((atL c ss).take j).count t : Nat))), (29, i64 c), (34, cv (.slc 4 0 (atL c ss).length none false)), (35, i64 (atL c ss).length), (36, i64 j)])
      (fun _ => [.rows true 3 (l.map rowNodZ), rtH, .one [.f (.int .i64 16), .slc 3 0 ss.length none nn], .rows false 2 ((ss ++ ex).map rowS), .rows false 1 ((atL c ss).map rowZ)]) (fun j => (atL c ss).length - j) []
      (At.mk' [1, 2, 7, 8, 9, 29, 34, 35, 36] 0 (by simp) ⟨rfl, rfl⟩ rfl rfl (by simp) (by simp) (by simp)) ?_
    intro j hj
    change j ≤ (atL c ss).length at hj
    refine S_r ?_
    refine brc_intro (fun hlt2 => ?_) (fun hlt2 => ?_)
    · have hlt2 : j < (atL c ss).length := by
        have := of_decide_eq_true hlt2
        have : (j : Int) < ((atL c ss).length : Int) := this
        omega
      obtain ⟨y, hy⟩ : ∃ y, (atL c ss)[j]? = some y := ⟨_, List.getElem?_eq_getElem hlt2⟩
      have hct := count_take (t := t) hy
      have hcl : ((atL c ss).take j).count t ≤ (atL c ss).length := Nat.le_trans List.count_le_length (by simp; omega)
      refine SS.inlR ?_
      refine at2 (by show (0 : Int) ≤ (j : Int); omega) (by show (j : Int) < ((atL c ss).length : Int); omega) (rd1 (rowZ y) (.int .i64 y) (gz hy) rfl ?_)
      refine brc_intro (fun h' => ?_) (fun h' => ?_)
      · have e : y = t := by simpa using h'
        rw [if_pos e] at hct
        refine At.mk' [1, 2, 7, 8, 9, 29, 34, 35, 36] (j + 1) ⟨hlt2, by omega⟩ ⟨?_, rfl⟩ rfl rfl (by simp) (by simp) (by simp)
        rw [wrap_i64 (j + 1) (by omega) (by omega), wrap_i64 (((plc t ss c + ((atL c ss).take j).count t : Nat) : Int) + 1) (by omega) (by omega), hct]
        rfl
      · have e : ¬ y = t := by simpa using h'
        rw [if_neg e] at hct
        refine At.mk' [1, 2, 7, 8, 9, 29, 34, 35, 36] (j + 1) ⟨hlt2, by omega⟩ ⟨?_, rfl⟩ rfl rfl (by simp) (by simp) (by simp)
        rw [wrap_i64 (j + 1) (by omega) (by omega), hct]
        rfl
    · have hlt2 : ¬ (j : Int) < ((atL c ss).length : Int) := of_decide_eq_false hlt2
      have e : (atL c ss).take j = atL c ss := List.take_of_length_le (by omega)
      refine At.mk' [1, 2, 7, 8, 9, 29] (c + 1) ⟨by show c + 1 ≤ 4; omega, by omega⟩ ⟨?_, rfl⟩ rfl rfl (by simp) (by simp) (by simp)
      rw [e, wrap_i64 _ (by omega) (by omega)]
      rfl
  · have hlt : ¬ (c : Int) < 4 := of_decide_eq_false hlt
    obtain rfl : c = 4 := by omega
    rcases ha with ⟨hno, rfl⟩ | ⟨i, x, hx, rfl⟩
    · rw [plc_no hno]
      change Does Tryd.prog 23 _ _ _
      refine Does.on 4 [2, 3] _ _ (lotPoke (n := 16) (k := ss.length) (nn := nn) (ss := ss) (ex := ex) t ht rfl (by omega) (fun pre post y hs hy hno' => absurd hy (hno y (by rw [hs]; simp))) fun _ => ?_)
      change Does Tryd.prog 21 _ _ _
      refine Does.on 4 [1] _ _ (tellErrno 6 ?_)
      change Does Tryd.prog 22 _ _ _
      refine Does.on 4 [2, 3] _ _ (lotSleep (n := 16) (k := ss.length) (nn := nn) (ss := ss) (ex := ex) t cl ht (by omega) rfl (by omega) hex (fun _ nn' ex' hex' => ?_) fun j y hy => absurd hno hy.not)
      change Does Tryd.prog 18 _ _ _
      refine Does.on 4 [2, 3] _ _ (lotCell2 (n := 16) (k := ss.length + 1) (nn := nn') (ss := ss ++ [⟨t, cl⟩]) (ex := ex') t (by simp) (by omega) fun b hb => ?_)
      refine fin ?_
      rcases hb with ⟨hb, _⟩ | ⟨i, y, hy, rfl⟩
      · exact absurd rfl (hb ⟨t, cl⟩ (by simp))
      · have hm := List.mem_iff_getElem?.2 ⟨i, hy.1⟩
        rcases List.mem_append.1 hm with hm | hm
        · exact absurd hy.2.1 (hno y hm)
        · simp at hm
          subst hm
          simp
    · have hxs : x ∈ ss := List.mem_iff_getElem?.2 ⟨i, hx.1⟩
      have hc := hce x hxs
      rw [plc_has hx hon hc]
      refine brc_intro (fun h => ?_) (fun h => ?_)
      · have : ¬ x.c ≥ 0 := by simpa using h
        omega
      have hla := atL_le x.c ss
      refine brc_intro (fun h => ?_) (fun h => ?_)
      · change Does Tryd.prog 19 _ _ _
        refine Does.on 4 [2, 3] _ _ (lotAt (n := 16) (k := ss.length) (nn := nn) (ss := ss) (ex := ex) x.c rfl (by omega) ?_)
        change Does Tryd.prog 20 _ _ _
        refine Does.on 5 [4] _ _ (containsInt (xs := atL x.c ss) t (by omega) (has_at hx) ?_)
        refine brc_intro (fun h => ?_) (fun h => ?_)
        · change Does Tryd.prog 22 _ _ _
          refine Does.on 5 [2, 3] _ _ (lotSleep (n := 16) (k := ss.length) (nn := nn) (ss := ss) (ex := ex) t cl ht (by omega) rfl (by omega) hex (fun hno => absurd hno hx.not) fun _ _ _ => ?_)
          change Does Tryd.prog 21 _ _ _
          refine Does.on 5 [1] _ _ (tellErrno 6 ?_)
          change Does Tryd.prog 18 _ _ _
          refine Does.on 5 [2, 3] _ _ (lotCell (n := 16) (k := ss.length) (nn := nn) (ss := ss) (ex := ex) t rfl (by omega) (fun i2 x2 hx2 => ?_) fun hno => absurd hno hx.not)
          obtain rfl : x2 = x := hasT_inj hx2 hx
          refine brc_intro (fun h => ?_) (fun h => ?_)
          · change Does Tryd.prog 23 _ _ _
            refine Does.on 5 [2, 3] _ _ (lotPoke (n := 16) (k := ss.length) (nn := nn) (ss := ss) (ex := ex) t ht rfl (by omega) (fun pre post y hs hy hno => ?_) fun hno => absurd hno hx.not)
            have hl2 : (pre ++ post).length + 1 = ss.length := by rw [hs]; simp; omega
            have e2 : pre.length + post.length = (pre ++ post).length := by simp
            rw [e2]
            change Does Tryd.prog 18 _ _ _
            refine Does.on 5 [2, 3] _ _ (lotCell (n := 16) (k := (pre ++ post).length) (nn := true) (ss := pre ++ post) (ex := ⟨0, 0⟩ :: ex) t rfl (by omega) (fun i3 x3 hx3 => ?_) fun _ => fin rfl)
            rw [hs] at hon
            have hp := once_split hon
            rw [hy] at hp
            have hm := List.mem_iff_getElem?.2 ⟨i3, hx3.1⟩
            rcases List.mem_append.1 hm with hm | hm
            · exact absurd hx3.2.1 (hno x3 hm)
            · exact absurd hx3.2.1 (hp x3 hm)
          · simp at h
        · have : ¬ x.c ≥ 0 := by simpa using h
          omega
      · have : ¬ x.c ≥ 0 := by simpa using h
        omega

end Go.Mac
