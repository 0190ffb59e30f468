/- Texts that belong together; the first of them: A story as a text: what is printed is parsed, and just one text is each story's. -/
import Derived.Test.YtlimhldkkbaohaaGreatDoorQCodeT
import Derived.Test.YtlimhldkkbaohaaGreatDoorQJudge
import Derived.Test.YtlimhldkkbaohaaGreatDoorQSplitG

/- A story as a text: what is printed is parsed, and just one text is each story's. -/
section
open Go Go.Proofs Go.Mac
set_option maxRecDepth 100000
namespace Go.Mac

/-- What may be said behind what was said at so much. -/
def okE (w : Int) (e : EvZ) : Bool := decide (w < e.w) && decide (1 ≤ e.a) && decide (e.a ≤ 3) && decide (0 ≤ e.t) && decide (e.t < 16)

def rightE : Int → List EvZ → Bool
  | _, [] => true
  | w, e :: es => okE w e && rightE e.w es

def namesE : List (List UInt8) := [[], [99, 97, 109, 101], [103, 111, 110, 101], [116, 111, 108, 100]]

def sayB (n : List UInt8) : Int := if n = [99, 97, 109, 101] then 1 else if n = [103, 111, 110, 101] then 2 else if n = [116, 111, 108, 100] then 3 else 0

def wordsE (e : EvZ) : List (List UInt8) := [Lib.itoa e.w, namesE.getD e.a.toNat [], Lib.itoa e.t, Lib.itoa e.v]

def printE (e : EvZ) : List UInt8 := joinB 32 (wordsE e)

def printS (es : List EvZ) : List UInt8 := (es.map fun e => printE e ++ [10]).flatten

/-- What a line's words are. -/
def wordsL : List (List UInt8) → Option EvZ
  | [a, n, t, v] =>
    match tokV a, tokV t, tokV v with
    | some x, some y, some z => some ⟨x, sayB n, y, z⟩
    | _, _, _ => none
  | _ => none

def lineE (l : List UInt8) : Option EvZ := wordsL (splitB 32 l)

def parseG : Nat → List EvZ → List UInt8 → Option (List EvZ)
  | 0, _, _ => none
  | n + 1, acc, s =>
    if s = [] then some acc else
    match cutB 10 s with
    | none => none
    | some (l, r) =>
      match lineE l with
      | none => none
      | some e => if rightE 0 (acc ++ [e]) = true then parseG n (acc ++ [e]) r else none

def parseS (acc : List EvZ) (s : List UInt8) : Option (List EvZ) := parseG (s.length + 1) acc s

structure Ev64 (e : EvZ) : Prop where
  w : In64 e.w
  a : In64 e.a
  t : In64 e.t
  v : In64 e.v

theorem okE_spec {w : Int} {e : EvZ} : okE w e = true ↔ w < e.w ∧ 1 ≤ e.a ∧ e.a ≤ 3 ∧ 0 ≤ e.t ∧ e.t < 16 := by
  simp only [okE, Bool.and_eq_true, decide_eq_true_eq, and_assoc]

theorem right_app (w : Int) : ∀ (xs ys : List EvZ), rightE w (xs ++ ys) = (rightE w xs && rightE ((xs.getLast?.map (·.w)).getD w) ys)
  | [], ys => by simp [rightE]
  | x :: xs, ys => by
    rw [List.cons_append, rightE, right_app x.w xs ys, rightE, Bool.and_assoc]
    congr 2
    cases xs with
    | nil => rfl
    | cons y ys => simp [List.getLast?_eq_some_getLast]

theorem right_mem {w : Int} : ∀ {xs : List EvZ}, rightE w xs = true → ∀ x ∈ xs, okE w x = true
  | e :: es, h, x, hx => by
    rw [rightE, Bool.and_eq_true] at h
    rcases List.mem_cons.1 hx with rfl | hx
    · exact h.1
    · have h1 := okE_spec.1 (right_mem h.2 x hx)
      have h2 := okE_spec.1 h.1
      exact okE_spec.2 ⟨by omega, h1.2⟩

theorem right_take {w : Int} {xs : List EvZ} (h : rightE w xs = true) (i : Nat) : rightE w (xs.take i) = true := by
  rw [← List.take_append_drop i xs, right_app, Bool.and_eq_true] at h
  exact h.1

theorem right_drop {xs : List EvZ} (h : rightE 0 xs = true) (i : Nat) : rightE 0 (xs.drop i) = true := by
  have h0 := h
  rw [← List.take_append_drop i xs, right_app, Bool.and_eq_true] at h
  cases hd : xs.drop i with
  | nil => rfl
  | cons y ys =>
    rw [hd] at h
    rw [rightE, Bool.and_eq_true] at h ⊢
    refine ⟨right_mem h0 y ?_, h.2.2⟩
    have : y ∈ xs.drop i := by rw [hd]; simp
    exact List.mem_of_mem_drop this

/-- Whether one more may follow is seen from the last one. -/
theorem right_last {xs : List EvZ} {e : EvZ} (h : rightE 0 xs = true) : rightE 0 (xs.drop (xs.length - 1) ++ [e]) = rightE 0 (xs ++ [e]) := by
  rw [right_app, right_app, h, right_drop h]
  congr 2
  rcases List.eq_nil_or_concat xs with rfl | ⟨ys, y, rfl⟩
  · rfl
  · simp

theorem name_plainE : ∀ o : Nat, 1 ≤ o → o < 4 → 32 ∉ namesE.getD o [] ∧ 10 ∉ namesE.getD o [] := by
  intro o h1 h2
  rcases (show o = 1 ∨ o = 2 ∨ o = 3 by omega) with rfl | rfl | rfl <;> decide

theorem words_plainE {e : EvZ} (h : 1 ≤ e.a ∧ e.a ≤ 3) : ∀ p ∈ wordsE e, (32 : UInt8) ∉ p ∧ (10 : UInt8) ∉ p := fun p hp => by
  have key : ∀ n : Int, (32 : UInt8) ∉ Lib.itoa n ∧ (10 : UInt8) ∉ Lib.itoa n := fun n => ⟨fun hm => (itoa_plain _ _ hm).1 rfl, fun hm => (itoa_plain _ _ hm).2 rfl⟩
  simp only [wordsE, List.mem_cons, List.not_mem_nil, or_false] at hp
  rcases hp with rfl | rfl | rfl | rfl
  · exact key _
  · exact name_plainE _ (by omega) (by omega)
  · exact key _
  · exact key _

theorem join_plain : ∀ ps : List (List UInt8), (∀ p ∈ ps, (10 : UInt8) ∉ p) → (10 : UInt8) ∉ joinB 32 ps := by
  intro ps
  induction ps with
  | nil => intro _; simp [joinB]
  | cons p ps ih =>
    intro hp
    cases ps with
    | nil => exact hp p (by simp)
    | cons q qs =>
      rw [joinB_cons (by simp)]
      intro hm
      rcases List.mem_append.1 hm with hm | hm
      · exact hp p (by simp) hm
      · rcases List.mem_cons.1 hm with hm | hm
        · exact absurd hm (by decide)
        · exact ih (fun x hx => hp x (by simp [hx])) hm

theorem printE_plain {e : EvZ} (h : 1 ≤ e.a ∧ e.a ≤ 3) : (10 : UInt8) ∉ printE e := join_plain _ fun p hp => (words_plainE h p hp).2

theorem say_name {a : Int} (h : 1 ≤ a ∧ a ≤ 3) : sayB (namesE.getD a.toNat []) = a := by
  rcases (show a = 1 ∨ a = 2 ∨ a = 3 by omega) with rfl | rfl | rfl <;> decide

theorem line_backE {e : EvZ} (h : 1 ≤ e.a ∧ e.a ≤ 3) (h64 : Ev64 e) : lineE (printE e) = some e := by
  unfold lineE printE
  rw [split_join (by simp [wordsE]) fun p hp => (words_plainE h p hp).1]
  unfold wordsE wordsL
  dsimp only
  rw [tok_itoa h64.w.1 h64.w.2, tok_itoa h64.t.1 h64.t.2, tok_itoa h64.v.1 h64.v.2, say_name h]

theorem line_onlyE {l : List UInt8} {e : EvZ} (h : lineE l = some e) (ha : 1 ≤ e.a) : printE e = l ∧ Ev64 e := by
  unfold lineE at h
  generalize hps : splitB 32 l = ps at h
  unfold wordsL at h
  split at h
  · rename_i a n t v
    split at h
    · rename_i x y z hx hy hz
      obtain rfl := Option.some.inj h
      obtain ⟨x1, x2, x3⟩ := tok_back hx
      obtain ⟨y1, y2, y3⟩ := tok_back hy
      obtain ⟨z1, z2, z3⟩ := tok_back hz
      have hn : namesE.getD (sayB n).toNat [] = n ∧ In64 (sayB n) := by
        dsimp only at ha
        unfold sayB at ha ⊢
        repeat' split
        · rename_i h; exact ⟨h.symm, by unfold In64; omega⟩
        · rename_i h; exact ⟨h.symm, by unfold In64; omega⟩
        · rename_i h; exact ⟨h.symm, by unfold In64; omega⟩
        · simp_all
      refine ⟨?_, ⟨x2, x3⟩, hn.2, ⟨y2, y3⟩, ⟨z2, z3⟩⟩
      rw [← join_split 32 l, hps]
      unfold printE wordsE
      dsimp only
      rw [x1, y1, z1, hn.1]
    · cases h
  · cases h

theorem printS_cons (x : EvZ) (p : List EvZ) : printS (x :: p) = printE x ++ 10 :: printS p := by simp [printS]

theorem printS_app (p q : List EvZ) : printS (p ++ q) = printS p ++ printS q := by simp [printS]

theorem parseG_fuel : ∀ (n m : Nat) (acc : List EvZ) (s : List UInt8), s.length < n → s.length < m → parseG n acc s = parseG m acc s
  | 0, _, _, s, h, _ => absurd h (by omega)
  | _, 0, _, s, _, h => absurd h (by omega)
  | n + 1, m + 1, acc, s, h, h' => by
    unfold parseG
    split
    · rfl
    · split
      · rfl
      · rename_i l r hc
        have := cut_len hc
        split
        · rfl
        · rw [parseG_fuel n m _ r (by omega) (by omega)]

theorem parseS_nil (acc : List EvZ) : parseS acc [] = some acc := rfl

theorem parseS_step {acc : List EvZ} {s l r : List UInt8} (h : cutB 10 s = some (l, r)) : parseS acc s = (match lineE l with | none => none | some e => if rightE 0 (acc ++ [e]) = true then parseS (acc ++ [e]) r else none) := by
  have := cut_len h
  have hs : s ≠ [] := fun e => by subst e; cases h
  unfold parseS
  rw [parseG, if_neg hs, h]
  dsimp only
  cases lineE l with
  | none => rfl
  | some e =>
    dsimp only
    rw [parseG_fuel s.length (r.length + 1) _ r (by omega) (by omega)]

theorem parseS_cut {acc : List EvZ} {s : List UInt8} (hs : s ≠ []) (h : cutB 10 s = none) : parseS acc s = none := by
  unfold parseS
  rw [parseG, if_neg hs, h]

theorem parse_printS : ∀ (es acc : List EvZ), rightE 0 (acc ++ es) = true → (∀ e ∈ es, Ev64 e) → parseS acc (printS es) = some (acc ++ es)
  | [], acc, _, _ => by simp [printS, parseS_nil]
  | e :: es, acc, h, h64 => by
    have ho := okE_spec.1 (right_mem h e (by simp))
    have hw : 1 ≤ e.a ∧ e.a ≤ 3 := ⟨ho.2.1, ho.2.2.1⟩
    have hcons : acc ++ e :: es = acc ++ [e] ++ es := by simp
    rw [hcons] at h ⊢
    rw [printS_cons, parseS_step (cut_app (printE_plain hw)), line_backE hw (h64 e (by simp))]
    dsimp only
    have h1 := h
    rw [right_app, Bool.and_eq_true] at h1
    rw [if_pos h1.1, parse_printS es (acc ++ [e]) h fun x hx => h64 x (by simp [hx])]

theorem parseG_back : ∀ (n : Nat) (acc : List EvZ) (s : List UInt8) (p : List EvZ), parseG n acc s = some p → rightE 0 acc = true → rightE 0 p = true ∧ ∃ es, p = acc ++ es ∧ printS es = s ∧ ∀ e ∈ es, Ev64 e
  | 0, _, s, p, h, _ => by cases h
  | n + 1, acc, s, p, h, hr => by
    unfold parseG at h
    split at h
    · rename_i hs
      obtain rfl := Option.some.inj h
      exact ⟨hr, [], by simp, hs.symm, by simp⟩
    · split at h
      · cases h
      · rename_i l r hc
        split at h
        · cases h
        · rename_i e hl
          split at h
          · rename_i hre
            obtain ⟨h0, es, rfl, h2, h3⟩ := parseG_back n _ r p h hre
            have ho := okE_spec.1 (right_mem hre e (by simp))
            obtain ⟨h5, h6⟩ := line_onlyE hl ho.2.1
            refine ⟨h0, e :: es, by simp, by rw [printS_cons, h5, h2, ← (cut_some hc).1], fun y hy => ?_⟩
            rcases List.mem_cons.1 hy with rfl | hy
            · exact h6
            · exact h3 y hy
          · cases h

theorem parse_backS {s : List UInt8} {p : List EvZ} (h : parseS [] s = some p) : rightE 0 p = true ∧ printS p = s ∧ ∀ e ∈ p, Ev64 e := by
  obtain ⟨h0, es, h1, h2, h3⟩ := parseG_back _ _ _ _ h rfl
  rw [List.nil_append] at h1
  subst h1
  exact ⟨h0, h2, h3⟩

theorem print_linesS : ∀ {w : Int} (p : List EvZ), rightE w p = true → Lib.countByte (printS p) 10 = p.length
  | _, [], _ => rfl
  | w, x :: p, h => by
    rw [rightE, Bool.and_eq_true] at h
    have ih := print_linesS p h.2
    have ho := okE_spec.1 h.1
    have h0 := count_free (printE_plain ⟨ho.2.1, ho.2.2.1⟩)
    rw [printS_cons]
    unfold Lib.countByte at ih h0 ⊢
    rw [List.count_append, h0, List.count_cons_self, ih]
    simp

theorem printE_len {e : EvZ} (h64 : Ev64 e) : (printE e).length ≤ 67 := by
  have h1 := itoa_len h64.w.1 h64.w.2
  have h2 := itoa_len h64.t.1 h64.t.2
  have h3 := itoa_len h64.v.1 h64.v.2
  have h4 : (namesE.getD e.a.toNat []).length ≤ 4 := by
    rcases Nat.lt_or_ge e.a.toNat 4 with h | h
    · rcases (show e.a.toNat = 0 ∨ e.a.toNat = 1 ∨ e.a.toNat = 2 ∨ e.a.toNat = 3 by omega) with h | h | h | h <;> rw [h] <;> decide
    · rw [List.getD_eq_getElem?_getD, List.getElem?_eq_none (by simpa [namesE] using h)]
      simp
  simp only [printE, wordsE, joinB, List.length_append, List.length_cons]
  omega

theorem printS_len : ∀ (p : List EvZ), (∀ x ∈ p, Ev64 x) → (printS p).length ≤ 68 * p.length
  | [], _ => by simp [printS]
  | x :: p, h => by
    have h1 := printE_len (h x (by simp))
    have ih := printS_len p fun y hy => h y (by simp [hy])
    rw [printS_cons]
    simp only [List.length_append, List.length_cons]
    omega

theorem printS_take {p : List EvZ} {i : Nat} {x : EvZ} (h : p[i]? = some x) : printS (p.take (i + 1)) = printS (p.take i) ++ printE x ++ [10] := by
  have hi := (List.getElem?_eq_some_iff.1 h).1
  rw [List.take_add_one, h, printS_app]
  simp [printS]

end Go.Mac
end

/- story.Right. -/
section
open Go Go.Proofs Go.Mac
set_option maxRecDepth 100000
namespace Go.Mac

section
variable {K : AV → List Nat → List PO → Prop}

set_option maxHeartbeats 1000000 in
theorem storyRight {all es : List EvZ} {n o : Nat} {ro nn : Bool} {c : Option Nat} (hl : es.length = n) (hall : ∀ i, i < n → all[o + i]? = es[i]?) (hn : n ≤ 1000000000)
    (h : K (bl (rightE 0 es)) [] [.rows ro 4 (all.map rowEv)]) : Does Tryz.prog 34 [cv (.slc 0 o n c nn)] [.rows ro 4 (all.map rowEv)] K := by
  refine Does.keep 1 rfl ?_
  refine does Tryz.func34 rfl (by decide) ?_
  refine SS.loop (fun p : Nat × Int => p.1 ≤ n ∧ rightE 0 es = rightE p.2 (es.drop p.1)) (fun p => [(3, i64 p.2), (6, cv (.slc 0 o n c nn)), (7, i64 n), (8, i64 p.1)]) (fun _ => [.rows ro 4 (all.map rowEv)]) (fun p => n - p.1) [1, 2, 3]
    (At.mk' [3, 6, 7, 8] (0, 0) ⟨by simp, by simp⟩ ⟨rfl, rfl⟩ rfl rfl (by simp) (by simp) (by simp)) ?_
  rintro ⟨i, w⟩ ⟨hi, hr⟩
  dsimp only at hi hr
  refine S_r ?_
  refine brc_intro (fun hlt => ?_) (fun hlt => ?_)
  · have hlt : i < n := by
      have := of_decide_eq_true hlt
      have : (i : Int) < (n : Int) := this
      omega
    obtain ⟨e, he⟩ : ∃ e, es[i]? = some e := ⟨_, List.getElem?_eq_getElem (by omega)⟩
    have hd : es.drop i = e :: es.drop (i + 1) := by
      rw [List.drop_eq_getElem_cons (by omega)]
      congr 1
      rw [List.getElem?_eq_getElem (by omega)] at he
      exact Option.some.inj he
    have hra : (all.map rowEv)[o + Int.toNat (i : Int)]? = some (rowEv e) := by rw [Int.toNat_natCast, List.getElem?_map, hall i hlt, he]; rfl
    rw [hd, rightE] at hr
    refine SS.inlR ?_
    refine at2 (a := (0 : Int) ≤ (i : Int)) (b := (i : Int) < (n : Int)) (by omega) (by omega) (rdA (rowEv e) hra ?_)
    have fail : okE w e = false → K (bl false) [] [.rows ro 4 (all.map rowEv)] := fun hf => by rw [hr, hf] at h; exact h
    have no : ¬ (w < e.w ∧ 1 ≤ e.a ∧ e.a ≤ 3 ∧ 0 ≤ e.t ∧ e.t < 16) → okE w e = false := fun hno => by
      cases hh : okE w e with
      | false => rfl
      | true => exact absurd (okE_spec.1 hh) hno
    refine brc_intro (fun h1 => ?_) (fun h1 => ?_)
    · have h1 : e.w ≤ w := of_decide_eq_true h1
      exact ⟨1, [0], _, _, rfl, rfl, by decide, by decide, rfl, rfl, rfl, rfl, rfl, fail (no (by omega))⟩
    have h1 : ¬ e.w ≤ w := of_decide_eq_false h1
    refine brc_intro (fun h2 => ?_) (fun h2 => ?_)
    · have h2 : e.a < 1 := of_decide_eq_true h2
      exact ⟨1, [0], _, _, rfl, rfl, by decide, by decide, rfl, rfl, rfl, rfl, rfl, fail (no (by omega))⟩
    have h2 : ¬ e.a < 1 := of_decide_eq_false h2
    refine brc_intro (fun h3 => ?_) (fun h3 => ?_)
    · have h3 : e.a > 3 := of_decide_eq_true h3
      exact ⟨1, [0], _, _, rfl, rfl, by decide, by decide, rfl, rfl, rfl, rfl, rfl, fail (no (by omega))⟩
    have h3 : ¬ e.a > 3 := of_decide_eq_false h3
    refine brc_intro (fun h4 => ?_) (fun h4 => ?_)
    · have h4 : e.t < 0 := of_decide_eq_true h4
      exact ⟨1, [0], _, _, rfl, rfl, by decide, by decide, rfl, rfl, rfl, rfl, rfl, fail (no (by omega))⟩
    have h4 : ¬ e.t < 0 := of_decide_eq_false h4
    refine brc_intro (fun h5 => ?_) (fun h5 => ?_)
    · have h5 : e.t ≥ 16 := of_decide_eq_true h5
      exact ⟨1, [0], _, _, rfl, rfl, by decide, by decide, rfl, rfl, rfl, rfl, rfl, fail (no (by omega))⟩
    have h5 : ¬ e.t ≥ 16 := of_decide_eq_false h5
    refine At.mk' [3, 6, 7, 8] (i + 1, e.w) ⟨⟨by dsimp only; omega, ?_⟩, by dsimp only; omega⟩ ⟨?_, rfl⟩ rfl rfl (by simp) (by simp) (by decide)
    · rw [hr, okE_spec.2 ⟨by omega, by omega, by omega, by omega, by omega⟩, Bool.true_and]
    · rw [wrap_i64 _ (by omega) (by omega)]
      rfl
  · have hlt : ¬ (i : Int) < (n : Int) := of_decide_eq_false hlt
    obtain rfl : n = i := by omega
    rw [List.drop_of_length_le (by omega)] at hr
    rw [hr] at h
    exact ⟨1, [0], _, _, rfl, rfl, by decide, by decide, rfl, rfl, rfl, rfl, rfl, h⟩

theorem storyRightR {R : List (List FC)} {es : List EvZ} {n : Nat} {ro nn : Bool} {c : Option Nat} (hR : R = es.map rowEv) (hl : es.length = n) (hn : n ≤ 1000000000)
    (h : K (bl (rightE 0 es)) [] [.rows ro 4 R]) : Does Tryz.prog 34 [cv (.slc 0 0 n c nn)] [.rows ro 4 R] K := by
  subst hR
  exact storyRight hl (fun i _ => by rw [Nat.zero_add]) hn h

end
end Go.Mac
end

/- story.number. -/
section
open Go Go.Proofs Go.Mac
set_option maxRecDepth 100000
namespace Go.Mac

section
variable {K : AV → List Nat → List PO → Prop}

set_option maxHeartbeats 1000000 in
theorem storyNumber {s : List UInt8} {b : Bool} (hs : s.length ≤ 1000000000) (h1 : ∀ v, tokV s = some v → K (i64 v) [] [.one [.f (.bool b)], powH, errS, errR])
    (h0 : tokV s = none → ∀ v : Int, K (i64 v) [] [.one [.f (.bool false)], powH, errS, errR]) : Does Tryz.prog 66 [st s, cv (.ptr 0 0)] [.one [.f (.bool b)], powH, errS, errR] K := by
  refine Does.keep 4 rfl ?_
  refine does Tryz.func66 rfl (by decide) ?_
  change Does Tryz.prog 79 _ _ _
  refine Does.on 4 [2, 3] _ _ (atoiText s hs (fun v hv => ?_) fun hv n => ?_)
  · have hv64 := atoi_range hv
    cases b with
    | false =>
      refine ⟨4, [0, 1, 2, 3], [.one [.f (.bool false)], powH, errS, errR], i64 v, rfl, rfl, by decide, by decide, rfl, rfl, rfl, rfl, rfl, ?_⟩
      cases ht : tokV s with
      | none => exact h0 ht v
      | some u =>
        have : u = v := by
          unfold tokV at ht
          rw [hv] at ht
          dsimp only at ht
          split at ht
          · exact (Option.some.inj ht).symm
          · cases ht
        rw [this] at ht
        exact h1 v ht
    | true =>
      change Does Tryz.prog 36 _ _ _
      refine Does.on 4 [1] _ _ (strItoa v hv64.1 hv64.2 ?_)
      by_cases hi : Lib.itoa v = s
      · refine ⟨4, [0, 1, 2, 3], [.one [.f (.bool (Lib.itoa v == s))], powH, errS, errR], i64 v, rfl, rfl, by decide, by decide, rfl, rfl, rfl, rfl, rfl, ?_⟩
        have e : (Lib.itoa v == s) = true := by simpa using hi
        show K (i64 v) [] [.one [.f (.bool (Lib.itoa v == s))], powH, errS, errR]
        rw [e]
        exact h1 v (by rw [tokV, hv]; exact if_pos hi)
      · refine ⟨4, [0, 1, 2, 3], [.one [.f (.bool (Lib.itoa v == s))], powH, errS, errR], i64 v, rfl, rfl, by decide, by decide, rfl, rfl, rfl, rfl, rfl, ?_⟩
        have e : (Lib.itoa v == s) = false := by simpa using hi
        show K (i64 v) [] [.one [.f (.bool (Lib.itoa v == s))], powH, errS, errR]
        rw [e]
        exact h0 (by rw [tokV, hv]; exact if_neg hi) v
  · have hn : tokV s = none := by
      unfold tokV
      split
      · rename_i v hv'
        exact absurd hv' (hv v)
      · rfl
    cases b with
    | false => exact ⟨4, [0, 1, 2, 3], _, i64 n, rfl, rfl, by decide, by decide, rfl, rfl, rfl, rfl, rfl, h0 hn n⟩
    | true => exact ⟨4, [0, 1, 2, 3], _, i64 n, rfl, rfl, by decide, by decide, rfl, rfl, rfl, rfl, rfl, h0 hn n⟩

theorem storyNumberS {s : List UInt8} {b : Bool} (hs : s.length ≤ 1000000000) (h : ∀ v : Int, (∀ u, tokV s = some u → v = u) → K (i64 v) [] [.one [.f (.bool (b && (tokV s).isSome))], powH, errS, errR]) :
    Does Tryz.prog 66 [st s, cv (.ptr 0 0)] [.one [.f (.bool b)], powH, errS, errR] K := by
  refine storyNumber hs (fun v hv => ?_) fun hn v => ?_
  · have := h v fun u hu => Option.some.inj (hv.symm.trans hu)
    rw [hv, Option.isSome_some, Bool.and_true] at this
    exact this
  · have := h v fun u hu => by rw [hn] at hu; cases hu
    rw [hn, Option.isSome_none, Bool.and_false] at this
    exact this

end
end Go.Mac
end

/- story.line. -/
section
open Go Go.Proofs Go.Mac
set_option maxRecDepth 100000
namespace Go.Mac

abbrev namesH : PO := .tab 0 (namesE.map .str)

/-- Which of the first names it is. -/
def sayC (n : List UInt8) : Nat → Int
  | 0 => 0
  | i + 1 => if 0 < i ∧ namesE.getD i [] = n then i else sayC n i

theorem say_four (n : List UInt8) : sayC n 4 = sayB n := by
  simp only [sayC, sayB, namesE, List.getD_eq_getElem?_getD]
  by_cases h1 : n = [99, 97, 109, 101]
  · subst h1; decide
  by_cases h2 : n = [103, 111, 110, 101]
  · subst h2; decide
  by_cases h3 : n = [116, 111, 108, 100]
  · subst h3; decide
  have h1' : ¬ ([99, 97, 109, 101] : List UInt8) = n := fun e => h1 e.symm
  have h2' : ¬ ([103, 111, 110, 101] : List UInt8) = n := fun e => h2 e.symm
  have h3' : ¬ ([116, 111, 108, 100] : List UInt8) = n := fun e => h3 e.symm
  simp [h1, h2, h3, h1', h2', h3']

section
variable {K : AV → List Nat → List PO → Prop}

set_option maxHeartbeats 4000000 in
theorem storyLine {s : List UInt8} (hs : s.length ≤ 1000000000) (h1 : ∀ e, lineE s = some e → K (.tup [.agg ((rowEv e).map .f), .c (.f (.bool true))]) [] [powH, errS, errR, namesH])
    (h0 : lineE s = none → ∀ e : EvZ, K (.tup [.agg ((rowEv e).map .f), .c (.f (.bool false))]) [] [powH, errS, errR, namesH]) : Does Tryz.prog 39 [st s] [powH, errS, errR, namesH] K := by
  refine Does.keep 4 rfl ?_
  refine does Tryz.func39 rfl (by decide) ?_
  change Does Tryz.prog 65 _ _ _
  refine Does.alone 5 (splitAll hs ?_)
  have htl := fun t ht => split_mem_len (c := 32) s t ht
  unfold lineE at h1 h0
  generalize hps : splitB 32 s = ps at h1 h0 htl ⊢
  refine brc_intro (fun hn => ?_) (fun hn => ?_)
  · have hn : ps.length ≠ 4 := fun e => by rw [e] at hn; simp at hn
    refine ⟨4, [0, 1, 2, 3], [powH, errS, errR, namesH], .tup [.agg ((rowEv ⟨0, 0, 0, 0⟩).map .f), .c (.f (.bool false))], rfl, rfl, by decide, by decide, rfl, rfl, rfl, rfl, rfl, h0 ?_ _⟩
    unfold wordsL
    split
    · exact absurd rfl hn
    · rfl
  have hn : ps.length = 4 := by
    have : ((ps.length : Nat) : Int) = 4 := by simpa using hn
    omega
  obtain ⟨a, n, t, v, rfl⟩ : ∃ a n t v, ps = [a, n, t, v] := by
    match ps, hn with
    | [a, n, t, v], _ => exact ⟨a, n, t, v, rfl⟩
  have la := htl a (by simp)
  have lt := htl t (by simp)
  have lv := htl v (by simp)
  have g0 : (([a, n, t, v] : List (List UInt8)).map rowStr)[0 + Int.toNat 0]? = some (rowStr a) := rfl
  have g2 : (([a, n, t, v] : List (List UInt8)).map rowStr)[0 + Int.toNat 2]? = some (rowStr t) := rfl
  have g3 : (([a, n, t, v] : List (List UInt8)).map rowStr)[0 + Int.toNat 3]? = some (rowStr v) := rfl
  have h04 : (0 : Int) < (([a, n, t, v] : List (List UInt8)).length : Int) := by simp
  have h24 : (2 : Int) < (([a, n, t, v] : List (List UInt8)).length : Int) := by simp
  have h34 : (3 : Int) < (([a, n, t, v] : List (List UInt8)).length : Int) := by simp
  refine SS.drawR follows (by decide) ?_
  refine at2 (Int.le_refl 0) h04 (rd1 (rowStr a) (.str a) g0 rfl ?_)
  refine at2 (by decide) h24 (rd1 (rowStr t) (.str t) g2 rfl ?_)
  refine at2 (by decide) h34 (rd1 (rowStr v) (.str v) g3 rfl ?_)
  have c0 : ∃ row x, (([a, n, t, v] : List (List UInt8)).map rowStr)[0 + Int.toNat 0]? = some row ∧ row[0]? = some x ∧ (AV.p (.c (.f x)) : AV) = st a := ⟨rowStr a, .str a, g0, rfl, rfl⟩
  have c2 : ∃ row x, (([a, n, t, v] : List (List UInt8)).map rowStr)[0 + Int.toNat 2]? = some row ∧ row[0]? = some x ∧ (AV.p (.c (.f x)) : AV) = st t := ⟨rowStr t, .str t, g2, rfl, rfl⟩
  have c3 : ∃ row x, (([a, n, t, v] : List (List UInt8)).map rowStr)[0 + Int.toNat 3]? = some row ∧ row[0]? = some x ∧ (AV.p (.c (.f x)) : AV) = st v := ⟨rowStr v, .str v, g3, rfl, rfl⟩
  have g1 : (([a, n, t, v] : List (List UInt8)).map rowStr)[0 + Int.toNat 1]? = some (rowStr n) := rfl
  have fin : ∀ x y z : Int, (∀ u, tokV a = some u → x = u) → (∀ u, tokV t = some u → y = u) → (∀ u, tokV v = some u → z = u) →
      K (.tup [.agg ((rowEv ⟨x, sayB n, y, z⟩).map .f), .c (.f (.bool (true && (tokV a).isSome && (tokV t).isSome && (tokV v).isSome)))]) [] [powH, errS, errR, namesH] := fun x y z hx hy hz => by
    unfold wordsL at h1 h0
    dsimp only at h1 h0
    cases ha : tokV a with
    | none => rw [ha] at h0; exact h0 rfl _
    | some x' =>
      cases ht : tokV t with
      | none => rw [ha, ht] at h0; exact h0 rfl _
      | some y' =>
        cases hv : tokV v with
        | none => rw [ha, ht, hv] at h0; exact h0 rfl _
        | some z' =>
          rw [ha, ht, hv] at h1
          rw [hx x' ha, hy y' ht, hz z' hv]
          exact h1 _ rfl
  refine And.intro ?_ ?_
  · change Does Tryz.prog 66 _ _ _
    refine Does.on 7 [6, 0, 1, 2] _ _ (storyNumberS (s := a) (by omega) fun x hx => ?_)
    repeat' (first | refine And.intro rfl ?_ | refine And.intro (And.intro (Int.le_refl 0) (And.intro h04 rfl)) ?_ | refine And.intro (And.intro (by decide) (And.intro h24 rfl)) ?_ | refine And.intro (And.intro (by decide) (And.intro h34 rfl)) ?_ | refine And.intro c0 ?_ | refine And.intro c2 ?_ | refine And.intro c3 ?_ | fail)
    refine And.intro ?_ ?_
    · change Does Tryz.prog 66 _ _ _
      refine Does.on 7 [6, 0, 1, 2] _ _ (storyNumberS (s := t) (by omega) fun y hy => ?_)
      repeat' (first | refine And.intro rfl ?_ | refine And.intro (And.intro (Int.le_refl 0) (And.intro h04 rfl)) ?_ | refine And.intro (And.intro (by decide) (And.intro h24 rfl)) ?_ | refine And.intro (And.intro (by decide) (And.intro h34 rfl)) ?_ | refine And.intro c0 ?_ | refine And.intro c2 ?_ | refine And.intro c3 ?_ | fail)
      refine And.intro ?_ ?_
      · change Does Tryz.prog 66 _ _ _
        refine Does.on 7 [6, 0, 1, 2] _ _ (storyNumberS (s := v) (by omega) fun z hz => ?_)
        repeat' (first | refine And.intro rfl ?_ | refine And.intro (And.intro (Int.le_refl 0) (And.intro h04 rfl)) ?_ | refine And.intro (And.intro (by decide) (And.intro h24 rfl)) ?_ | refine And.intro (And.intro (by decide) (And.intro h34 rfl)) ?_ | refine And.intro c0 ?_ | refine And.intro c2 ?_ | refine And.intro c3 ?_ | fail)
        repeat' (first | refine And.intro rfl ?_ | refine And.intro (And.intro (Int.le_refl 0) (And.intro h04 rfl)) ?_ | refine And.intro (And.intro (by decide) (And.intro h24 rfl)) ?_ | refine And.intro (And.intro (by decide) (And.intro h34 rfl)) ?_ | refine And.intro c0 ?_ | refine And.intro c2 ?_ | refine And.intro c3 ?_ | fail)
        repeat' (first | refine And.intro rfl ?_ | refine And.intro (And.intro (Int.le_refl 0) (And.intro h04 rfl)) ?_ | refine And.intro (And.intro (by decide) (And.intro h24 rfl)) ?_ | refine And.intro (And.intro (by decide) (And.intro h34 rfl)) ?_ | refine And.intro c0 ?_ | refine And.intro c2 ?_ | refine And.intro c3 ?_ | fail)
        refine SS.loop (fun i : Nat => i ≤ 4) (fun i => [(2, cv (.ptr 4 0)), (4, cv (.slc 5 0 4 none true)), (5, cv (.ptr 6 0)), (6, cv (.ptr 7 0)), (28, .p (.agg (namesE.map fun w => .f (.str w)))), (29, i64 i)])
          (fun i => [powH, errS, errR, namesH, .one [.f (.int .i64 0), .f (.int .i64 0), .f (.int .i64 0), .f (.int .i64 0)], .rows false 1 ([a, n, t, v].map rowStr), .one [.f (.bool (true && (tokV a).isSome && (tokV t).isSome && (tokV v).isSome))], .one [.f (.int .i64 x), .f (.int .i64 (sayC n i)), .f (.int .i64 y), .f (.int .i64 z)]]) (fun i => 4 - i) [4, 5, 6, 7]
          (At.mk' [2, 4, 5, 6, 28, 29] 0 (by simp) ⟨rfl, rfl⟩ rfl rfl (by simp) (by simp) (by decide)) ?_
        intro i hi
        change i ≤ 4 at hi
        refine S_r ?_
        refine brc_intro (fun hlt => ?_) (fun hlt => ?_)
        · have hlt : i < 4 := by
            have := of_decide_eq_true hlt
            have : (i : Int) < 4 := this
            omega
          have wi : IntKind.i64.wrap ((i : Int) + 1) = ((i + 1 : Nat) : Int) := wrap_i64 _ (by omega) (by omega)
          have hnm : (namesE.map fun w => CV.f (.str w))[i]? = some (.f (.str (namesE.getD i []))) := by
            rcases (show i = 0 ∨ i = 1 ∨ i = 2 ∨ i = 3 by omega) with rfl | rfl | rfl | rfl <;> rfl
          refine SS.inlR ?_
          refine at2 (a := (0 : Int) ≤ (i : Int)) (b := (i : Int) < (4 : Nat)) (by omega) (by omega) ?_
          refine Exists.intro (CV.f (.str (namesE.getD i []))) (And.intro (by rw [show szOf Tryz.prog 9 = 1 from rfl, Int.toNat_natCast, Nat.mul_one]; exact hnm) ?_)
          refine brc_intro (fun h0' => ?_) (fun h0' => ?_)
          · have hi0 : 0 < i := by
              have := of_decide_eq_true h0'
              have : (0 : Int) < (i : Int) := this
              omega
            refine at2 (by decide) (by decide) (rd1 (rowStr n) (.str n) g1 rfl ?_)
            refine brc_intro (fun he => ?_) (fun he => ?_)
            · have he : namesE.getD i [] = n := by simpa using he
              have hs : sayC n (i + 1) = (i : Int) := if_pos ⟨hi0, he⟩
              refine At.mk' [2, 4, 5, 6, 28, 29] (i + 1) ⟨hlt, by omega⟩ ⟨?_, rfl⟩ ?_ rfl (by simp) (by simp) (by decide)
              · rw [wi]
              · rw [hs]
                rfl
            · have he : namesE.getD i [] ≠ n := by simpa using he
              have hs : sayC n (i + 1) = sayC n i := if_neg fun h => he h.2
              refine At.mk' [2, 4, 5, 6, 28, 29] (i + 1) ⟨hlt, by omega⟩ ⟨?_, rfl⟩ ?_ rfl (by simp) (by simp) (by decide)
              · rw [wi]
              · rw [hs]
                rfl
          · have hi0 : ¬ 0 < i := by
              have := of_decide_eq_false h0'
              have : ¬ (0 : Int) < (i : Int) := this
              omega
            have hs : sayC n (i + 1) = sayC n i := if_neg fun h => hi0 h.1
            refine At.mk' [2, 4, 5, 6, 28, 29] (i + 1) ⟨hlt, by omega⟩ ⟨?_, rfl⟩ ?_ rfl (by simp) (by simp) (by decide)
            · rw [wi]
            · rw [hs]
              rfl
        · have hlt : ¬ (i : Int) < 4 := of_decide_eq_false hlt
          obtain rfl : i = 4 := by omega
          rw [say_four]
          refine SS.drawR follows (by decide) ?_
          repeat' (first | refine And.intro rfl ?_ | refine And.intro (And.intro (Int.le_refl 0) (And.intro h04 rfl)) ?_ | refine And.intro (And.intro (by decide) (And.intro h24 rfl)) ?_ | refine And.intro (And.intro (by decide) (And.intro h34 rfl)) ?_ | refine And.intro c0 ?_ | refine And.intro c2 ?_ | refine And.intro c3 ?_ | fail)
          exact ⟨4, [0, 1, 2, 3], [powH, errS, errR, namesH], .tup [.agg ((rowEv ⟨x, sayB n, y, z⟩).map .f), .c (.f (.bool (true && (tokV a).isSome && (tokV t).isSome && (tokV v).isSome)))], rfl, rfl, by decide, by decide, rfl, rfl, rfl, rfl, rfl, fin x y z hx hy hz⟩
      · repeat' (first | refine And.intro rfl ?_ | refine And.intro (And.intro (Int.le_refl 0) (And.intro h04 rfl)) ?_ | refine And.intro (And.intro (by decide) (And.intro h24 rfl)) ?_ | refine And.intro (And.intro (by decide) (And.intro h34 rfl)) ?_ | refine And.intro c0 ?_ | refine And.intro c2 ?_ | refine And.intro c3 ?_ | fail)
        change Does Tryz.prog 66 _ _ _
        refine Does.on 8 [6, 0, 1, 2] _ _ (storyNumberS (s := v) (by omega) fun z hz => ?_)
        repeat' (first | refine And.intro rfl ?_ | refine And.intro (And.intro (Int.le_refl 0) (And.intro h04 rfl)) ?_ | refine And.intro (And.intro (by decide) (And.intro h24 rfl)) ?_ | refine And.intro (And.intro (by decide) (And.intro h34 rfl)) ?_ | refine And.intro c0 ?_ | refine And.intro c2 ?_ | refine And.intro c3 ?_ | fail)
        repeat' (first | refine And.intro rfl ?_ | refine And.intro (And.intro (Int.le_refl 0) (And.intro h04 rfl)) ?_ | refine And.intro (And.intro (by decide) (And.intro h24 rfl)) ?_ | refine And.intro (And.intro (by decide) (And.intro h34 rfl)) ?_ | refine And.intro c0 ?_ | refine And.intro c2 ?_ | refine And.intro c3 ?_ | fail)
        refine SS.loop (fun i : Nat => i ≤ 4) (fun i => [(2, cv (.ptr 4 0)), (4, cv (.slc 5 0 4 none true)), (5, cv (.ptr 6 0)), (6, cv (.ptr 7 0)), (28, .p (.agg (namesE.map fun w => .f (.str w)))), (29, i64 i)])
          (fun i => [powH, errS, errR, namesH, .one [.f (.int .i64 0), .f (.int .i64 0), .f (.int .i64 0), .f (.int .i64 0)], .rows false 1 ([a, n, t, v].map rowStr), .one [.f (.bool (true && (tokV a).isSome && (tokV t).isSome && (tokV v).isSome))], .one [.f (.int .i64 x), .f (.int .i64 (sayC n i)), .f (.int .i64 y), .f (.int .i64 z)]]) (fun i => 4 - i) [4, 5, 6, 7]
          (At.mk' [2, 4, 5, 6, 28, 29] 0 (by simp) ⟨rfl, rfl⟩ rfl rfl (by simp) (by simp) (by decide)) ?_
        intro i hi
        change i ≤ 4 at hi
        refine S_r ?_
        refine brc_intro (fun hlt => ?_) (fun hlt => ?_)
        · have hlt : i < 4 := by
            have := of_decide_eq_true hlt
            have : (i : Int) < 4 := this
            omega
          have wi : IntKind.i64.wrap ((i : Int) + 1) = ((i + 1 : Nat) : Int) := wrap_i64 _ (by omega) (by omega)
          have hnm : (namesE.map fun w => CV.f (.str w))[i]? = some (.f (.str (namesE.getD i []))) := by
            rcases (show i = 0 ∨ i = 1 ∨ i = 2 ∨ i = 3 by omega) with rfl | rfl | rfl | rfl <;> rfl
          refine SS.inlR ?_
          refine at2 (a := (0 : Int) ≤ (i : Int)) (b := (i : Int) < (4 : Nat)) (by omega) (by omega) ?_
          refine Exists.intro (CV.f (.str (namesE.getD i []))) (And.intro (by rw [show szOf Tryz.prog 9 = 1 from rfl, Int.toNat_natCast, Nat.mul_one]; exact hnm) ?_)
          refine brc_intro (fun h0' => ?_) (fun h0' => ?_)
          · have hi0 : 0 < i := by
              have := of_decide_eq_true h0'
              have : (0 : Int) < (i : Int) := this
              omega
            refine at2 (by decide) (by decide) (rd1 (rowStr n) (.str n) g1 rfl ?_)
            refine brc_intro (fun he => ?_) (fun he => ?_)
            · have he : namesE.getD i [] = n := by simpa using he
              have hs : sayC n (i + 1) = (i : Int) := if_pos ⟨hi0, he⟩
              refine At.mk' [2, 4, 5, 6, 28, 29] (i + 1) ⟨hlt, by omega⟩ ⟨?_, rfl⟩ ?_ rfl (by simp) (by simp) (by decide)
              · rw [wi]
              · rw [hs]
                rfl
            · have he : namesE.getD i [] ≠ n := by simpa using he
              have hs : sayC n (i + 1) = sayC n i := if_neg fun h => he h.2
              refine At.mk' [2, 4, 5, 6, 28, 29] (i + 1) ⟨hlt, by omega⟩ ⟨?_, rfl⟩ ?_ rfl (by simp) (by simp) (by decide)
              · rw [wi]
              · rw [hs]
                rfl
          · have hi0 : ¬ 0 < i := by
              have := of_decide_eq_false h0'
              have : ¬ (0 : Int) < (i : Int) := this
              omega
            have hs : sayC n (i + 1) = sayC n i := if_neg fun h => hi0 h.1
            refine At.mk' [2, 4, 5, 6, 28, 29] (i + 1) ⟨hlt, by omega⟩ ⟨?_, rfl⟩ ?_ rfl (by simp) (by simp) (by decide)
            · rw [wi]
            · rw [hs]
              rfl
        · have hlt : ¬ (i : Int) < 4 := of_decide_eq_false hlt
          obtain rfl : i = 4 := by omega
          rw [say_four]
          refine SS.drawR follows (by decide) ?_
          repeat' (first | refine And.intro rfl ?_ | refine And.intro (And.intro (Int.le_refl 0) (And.intro h04 rfl)) ?_ | refine And.intro (And.intro (by decide) (And.intro h24 rfl)) ?_ | refine And.intro (And.intro (by decide) (And.intro h34 rfl)) ?_ | refine And.intro c0 ?_ | refine And.intro c2 ?_ | refine And.intro c3 ?_ | fail)
          exact ⟨4, [0, 1, 2, 3], [powH, errS, errR, namesH], .tup [.agg ((rowEv ⟨x, sayB n, y, z⟩).map .f), .c (.f (.bool (true && (tokV a).isSome && (tokV t).isSome && (tokV v).isSome)))], rfl, rfl, by decide, by decide, rfl, rfl, rfl, rfl, rfl, fin x y z hx hy hz⟩
    · repeat' (first | refine And.intro rfl ?_ | refine And.intro (And.intro (Int.le_refl 0) (And.intro h04 rfl)) ?_ | refine And.intro (And.intro (by decide) (And.intro h24 rfl)) ?_ | refine And.intro (And.intro (by decide) (And.intro h34 rfl)) ?_ | refine And.intro c0 ?_ | refine And.intro c2 ?_ | refine And.intro c3 ?_ | fail)
      change Does Tryz.prog 66 _ _ _
      refine Does.on 8 [6, 0, 1, 2] _ _ (storyNumberS (s := t) (by omega) fun y hy => ?_)
      repeat' (first | refine And.intro rfl ?_ | refine And.intro (And.intro (Int.le_refl 0) (And.intro h04 rfl)) ?_ | refine And.intro (And.intro (by decide) (And.intro h24 rfl)) ?_ | refine And.intro (And.intro (by decide) (And.intro h34 rfl)) ?_ | refine And.intro c0 ?_ | refine And.intro c2 ?_ | refine And.intro c3 ?_ | fail)
      change Does Tryz.prog 66 _ _ _
      refine Does.on 8 [6, 0, 1, 2] _ _ (storyNumberS (s := v) (by omega) fun z hz => ?_)
      repeat' (first | refine And.intro rfl ?_ | refine And.intro (And.intro (Int.le_refl 0) (And.intro h04 rfl)) ?_ | refine And.intro (And.intro (by decide) (And.intro h24 rfl)) ?_ | refine And.intro (And.intro (by decide) (And.intro h34 rfl)) ?_ | refine And.intro c0 ?_ | refine And.intro c2 ?_ | refine And.intro c3 ?_ | fail)
      repeat' (first | refine And.intro rfl ?_ | refine And.intro (And.intro (Int.le_refl 0) (And.intro h04 rfl)) ?_ | refine And.intro (And.intro (by decide) (And.intro h24 rfl)) ?_ | refine And.intro (And.intro (by decide) (And.intro h34 rfl)) ?_ | refine And.intro c0 ?_ | refine And.intro c2 ?_ | refine And.intro c3 ?_ | fail)
      refine SS.loop (fun i : Nat => i ≤ 4) (fun i => [(2, cv (.ptr 4 0)), (4, cv (.slc 5 0 4 none true)), (5, cv (.ptr 6 0)), (6, cv (.ptr 7 0)), (28, .p (.agg (namesE.map fun w => .f (.str w)))), (29, i64 i)])
        (fun i => [powH, errS, errR, namesH, .one [.f (.int .i64 0), .f (.int .i64 0), .f (.int .i64 0), .f (.int .i64 0)], .rows false 1 ([a, n, t, v].map rowStr), .one [.f (.bool (true && (tokV a).isSome && (tokV t).isSome && (tokV v).isSome))], .one [.f (.int .i64 x), .f (.int .i64 (sayC n i)), .f (.int .i64 y), .f (.int .i64 z)]]) (fun i => 4 - i) [4, 5, 6, 7]
        (At.mk' [2, 4, 5, 6, 28, 29] 0 (by simp) ⟨rfl, rfl⟩ rfl rfl (by simp) (by simp) (by decide)) ?_
      intro i hi
      change i ≤ 4 at hi
      refine S_r ?_
      refine brc_intro (fun hlt => ?_) (fun hlt => ?_)
      · have hlt : i < 4 := by
          have := of_decide_eq_true hlt
          have : (i : Int) < 4 := this
          omega
        have wi : IntKind.i64.wrap ((i : Int) + 1) = ((i + 1 : Nat) : Int) := wrap_i64 _ (by omega) (by omega)
        have hnm : (namesE.map fun w => CV.f (.str w))[i]? = some (.f (.str (namesE.getD i []))) := by
          rcases (show i = 0 ∨ i = 1 ∨ i = 2 ∨ i = 3 by omega) with rfl | rfl | rfl | rfl <;> rfl
        refine SS.inlR ?_
        refine at2 (a := (0 : Int) ≤ (i : Int)) (b := (i : Int) < (4 : Nat)) (by omega) (by omega) ?_
        refine Exists.intro (CV.f (.str (namesE.getD i []))) (And.intro (by rw [show szOf Tryz.prog 9 = 1 from rfl, Int.toNat_natCast, Nat.mul_one]; exact hnm) ?_)
        refine brc_intro (fun h0' => ?_) (fun h0' => ?_)
        · have hi0 : 0 < i := by
            have := of_decide_eq_true h0'
            have : (0 : Int) < (i : Int) := this
            omega
          refine at2 (by decide) (by decide) (rd1 (rowStr n) (.str n) g1 rfl ?_)
          refine brc_intro (fun he => ?_) (fun he => ?_)
          · have he : namesE.getD i [] = n := by simpa using he
            have hs : sayC n (i + 1) = (i : Int) := if_pos ⟨hi0, he⟩
            refine At.mk' [2, 4, 5, 6, 28, 29] (i + 1) ⟨hlt, by omega⟩ ⟨?_, rfl⟩ ?_ rfl (by simp) (by simp) (by decide)
            · rw [wi]
            · rw [hs]
              rfl
          · have he : namesE.getD i [] ≠ n := by simpa using he
            have hs : sayC n (i + 1) = sayC n i := if_neg fun h => he h.2
            refine At.mk' [2, 4, 5, 6, 28, 29] (i + 1) ⟨hlt, by omega⟩ ⟨?_, rfl⟩ ?_ rfl (by simp) (by simp) (by decide)
            · rw [wi]
            · rw [hs]
              rfl
        · have hi0 : ¬ 0 < i := by
            have := of_decide_eq_false h0'
            have : ¬ (0 : Int) < (i : Int) := this
            omega
          have hs : sayC n (i + 1) = sayC n i := if_neg fun h => hi0 h.1
          refine At.mk' [2, 4, 5, 6, 28, 29] (i + 1) ⟨hlt, by omega⟩ ⟨?_, rfl⟩ ?_ rfl (by simp) (by simp) (by decide)
          · rw [wi]
          · rw [hs]
            rfl
      · have hlt : ¬ (i : Int) < 4 := of_decide_eq_false hlt
        obtain rfl : i = 4 := by omega
        rw [say_four]
        refine SS.drawR follows (by decide) ?_
        repeat' (first | refine And.intro rfl ?_ | refine And.intro (And.intro (Int.le_refl 0) (And.intro h04 rfl)) ?_ | refine And.intro (And.intro (by decide) (And.intro h24 rfl)) ?_ | refine And.intro (And.intro (by decide) (And.intro h34 rfl)) ?_ | refine And.intro c0 ?_ | refine And.intro c2 ?_ | refine And.intro c3 ?_ | fail)
        exact ⟨4, [0, 1, 2, 3], [powH, errS, errR, namesH], .tup [.agg ((rowEv ⟨x, sayB n, y, z⟩).map .f), .c (.f (.bool (true && (tokV a).isSome && (tokV t).isSome && (tokV v).isSome)))], rfl, rfl, by decide, by decide, rfl, rfl, rfl, rfl, rfl, fin x y z hx hy hz⟩
  · repeat' (first | refine And.intro rfl ?_ | refine And.intro (And.intro (Int.le_refl 0) (And.intro h04 rfl)) ?_ | refine And.intro (And.intro (by decide) (And.intro h24 rfl)) ?_ | refine And.intro (And.intro (by decide) (And.intro h34 rfl)) ?_ | refine And.intro c0 ?_ | refine And.intro c2 ?_ | refine And.intro c3 ?_ | fail)
    change Does Tryz.prog 66 _ _ _
    refine Does.on 8 [6, 0, 1, 2] _ _ (storyNumberS (s := a) (by omega) fun x hx => ?_)
    repeat' (first | refine And.intro rfl ?_ | refine And.intro (And.intro (Int.le_refl 0) (And.intro h04 rfl)) ?_ | refine And.intro (And.intro (by decide) (And.intro h24 rfl)) ?_ | refine And.intro (And.intro (by decide) (And.intro h34 rfl)) ?_ | refine And.intro c0 ?_ | refine And.intro c2 ?_ | refine And.intro c3 ?_ | fail)
    change Does Tryz.prog 66 _ _ _
    refine Does.on 8 [6, 0, 1, 2] _ _ (storyNumberS (s := t) (by omega) fun y hy => ?_)
    repeat' (first | refine And.intro rfl ?_ | refine And.intro (And.intro (Int.le_refl 0) (And.intro h04 rfl)) ?_ | refine And.intro (And.intro (by decide) (And.intro h24 rfl)) ?_ | refine And.intro (And.intro (by decide) (And.intro h34 rfl)) ?_ | refine And.intro c0 ?_ | refine And.intro c2 ?_ | refine And.intro c3 ?_ | fail)
    change Does Tryz.prog 66 _ _ _
    refine Does.on 8 [6, 0, 1, 2] _ _ (storyNumberS (s := v) (by omega) fun z hz => ?_)
    repeat' (first | refine And.intro rfl ?_ | refine And.intro (And.intro (Int.le_refl 0) (And.intro h04 rfl)) ?_ | refine And.intro (And.intro (by decide) (And.intro h24 rfl)) ?_ | refine And.intro (And.intro (by decide) (And.intro h34 rfl)) ?_ | refine And.intro c0 ?_ | refine And.intro c2 ?_ | refine And.intro c3 ?_ | fail)
    repeat' (first | refine And.intro rfl ?_ | refine And.intro (And.intro (Int.le_refl 0) (And.intro h04 rfl)) ?_ | refine And.intro (And.intro (by decide) (And.intro h24 rfl)) ?_ | refine And.intro (And.intro (by decide) (And.intro h34 rfl)) ?_ | refine And.intro c0 ?_ | refine And.intro c2 ?_ | refine And.intro c3 ?_ | fail)
    refine SS.loop (fun i : Nat => i ≤ 4) (fun i => [(2, cv (.ptr 4 0)), (4, cv (.slc 5 0 4 none true)), (5, cv (.ptr 6 0)), (6, cv (.ptr 7 0)), (28, .p (.agg (namesE.map fun w => .f (.str w)))), (29, i64 i)])
      (fun i => [powH, errS, errR, namesH, .one [.f (.int .i64 0), .f (.int .i64 0), .f (.int .i64 0), .f (.int .i64 0)], .rows false 1 ([a, n, t, v].map rowStr), .one [.f (.bool (true && (tokV a).isSome && (tokV t).isSome && (tokV v).isSome))], .one [.f (.int .i64 x), .f (.int .i64 (sayC n i)), .f (.int .i64 y), .f (.int .i64 z)]]) (fun i => 4 - i) [4, 5, 6, 7]
      (At.mk' [2, 4, 5, 6, 28, 29] 0 (by simp) ⟨rfl, rfl⟩ rfl rfl (by simp) (by simp) (by decide)) ?_
    intro i hi
    change i ≤ 4 at hi
    refine S_r ?_
    refine brc_intro (fun hlt => ?_) (fun hlt => ?_)
    · have hlt : i < 4 := by
        have := of_decide_eq_true hlt
        have : (i : Int) < 4 := this
        omega
      have wi : IntKind.i64.wrap ((i : Int) + 1) = ((i + 1 : Nat) : Int) := wrap_i64 _ (by omega) (by omega)
      have hnm : (namesE.map fun w => CV.f (.str w))[i]? = some (.f (.str (namesE.getD i []))) := by
        rcases (show i = 0 ∨ i = 1 ∨ i = 2 ∨ i = 3 by omega) with rfl | rfl | rfl | rfl <;> rfl
      refine SS.inlR ?_
      refine at2 (a := (0 : Int) ≤ (i : Int)) (b := (i : Int) < (4 : Nat)) (by omega) (by omega) ?_
      refine Exists.intro (CV.f (.str (namesE.getD i []))) (And.intro (by rw [show szOf Tryz.prog 9 = 1 from rfl, Int.toNat_natCast, Nat.mul_one]; exact hnm) ?_)
      refine brc_intro (fun h0' => ?_) (fun h0' => ?_)
      · have hi0 : 0 < i := by
          have := of_decide_eq_true h0'
          have : (0 : Int) < (i : Int) := this
          omega
        refine at2 (by decide) (by decide) (rd1 (rowStr n) (.str n) g1 rfl ?_)
        refine brc_intro (fun he => ?_) (fun he => ?_)
        · have he : namesE.getD i [] = n := by simpa using he
          have hs : sayC n (i + 1) = (i : Int) := if_pos ⟨hi0, he⟩
          refine At.mk' [2, 4, 5, 6, 28, 29] (i + 1) ⟨hlt, by omega⟩ ⟨?_, rfl⟩ ?_ rfl (by simp) (by simp) (by decide)
          · rw [wi]
          · rw [hs]
            rfl
        · have he : namesE.getD i [] ≠ n := by simpa using he
          have hs : sayC n (i + 1) = sayC n i := if_neg fun h => he h.2
          refine At.mk' [2, 4, 5, 6, 28, 29] (i + 1) ⟨hlt, by omega⟩ ⟨?_, rfl⟩ ?_ rfl (by simp) (by simp) (by decide)
          · rw [wi]
          · rw [hs]
            rfl
      · have hi0 : ¬ 0 < i := by
          have := of_decide_eq_false h0'
          have : ¬ (0 : Int) < (i : Int) := this
          omega
        have hs : sayC n (i + 1) = sayC n i := if_neg fun h => hi0 h.1
        refine At.mk' [2, 4, 5, 6, 28, 29] (i + 1) ⟨hlt, by omega⟩ ⟨?_, rfl⟩ ?_ rfl (by simp) (by simp) (by decide)
        · rw [wi]
        · rw [hs]
          rfl
    · have hlt : ¬ (i : Int) < 4 := of_decide_eq_false hlt
      obtain rfl : i = 4 := by omega
      rw [say_four]
      refine SS.drawR follows (by decide) ?_
      repeat' (first | refine And.intro rfl ?_ | refine And.intro (And.intro (Int.le_refl 0) (And.intro h04 rfl)) ?_ | refine And.intro (And.intro (by decide) (And.intro h24 rfl)) ?_ | refine And.intro (And.intro (by decide) (And.intro h34 rfl)) ?_ | refine And.intro c0 ?_ | refine And.intro c2 ?_ | refine And.intro c3 ?_ | fail)
      exact ⟨4, [0, 1, 2, 3], [powH, errS, errR, namesH], .tup [.agg ((rowEv ⟨x, sayB n, y, z⟩).map .f), .c (.f (.bool (true && (tokV a).isSome && (tokV t).isSome && (tokV v).isSome)))], rfl, rfl, by decide, by decide, rfl, rfl, rfl, rfl, rfl, fin x y z hx hy hz⟩

end
end Go.Mac
end
