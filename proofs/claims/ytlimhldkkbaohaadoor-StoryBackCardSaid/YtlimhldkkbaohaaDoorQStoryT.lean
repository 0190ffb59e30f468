/- A story as a text: what is printed is parsed, and just one text is each story's. -/
import Derived.Test.YtlimhldkkbaohaaDoorQCodeT
import Derived.Test.YtlimhldkkbaohaaDoorQJudge
open Go Go.Proofs Go.Mac
set_option maxRecDepth 100000
namespace Go.Mac

/-- What may be said behind what was said at so much. -/
def okE (w : Int) (e : EvZ) : Bool := decide (w < e.w) && decide (1 ≤ e.a) && decide (e.a ≤ 3) && decide (0 ≤ e.t) && decide (e.t < 16)

def rightE : Int → List EvZ → Bool
  | _, [] => true
  | w, e :: es => okE w e && rightE e.w es

def namesE : List (List UInt8) := [[], [99, 97, 109, 101], [103, 111, 110, 101], [116, 111, 108, 100]]

def sayB (n : List UInt8) : Int := if n = [99, 97, 109, 101] then 1 else if n = [103, 111, 110, 101] then 2 else if n = [116, 111, 108, 100] then 3 else 0

def wordsE (e : EvZ) : List (List UInt8) := [Lib.itoa e.w, namesE.getD e.a.toNat [], Lib.itoa e.t, Lib.itoa e.v]

def printE (e : EvZ) : List UInt8 := joinB 32 (wordsE e)

def printS (es : List EvZ) : List UInt8 := (es.map fun e => printE e ++ [10]).flatten

/-- What a line's words are. -/
def wordsL : List (List UInt8) → Option EvZ
  | [a, n, t, v] =>
    match tokV a, tokV t, tokV v with
    | some x, some y, some z => some ⟨x, sayB n, y, z⟩
    | _, _, _ => none
  | _ => none

def lineE (l : List UInt8) : Option EvZ := wordsL (splitB 32 l)

def parseG : Nat → List EvZ → List UInt8 → Option (List EvZ)
  | 0, _, _ => none
  | n + 1, acc, s =>
    if s = [] then some acc else
    match cutB 10 s with
    | none => none
    | some (l, r) =>
      match lineE l with
      | none => none
      | some e => if rightE 0 (acc ++ [e]) = true then parseG n (acc ++ [e]) r else none

def parseS (acc : List EvZ) (s : List UInt8) : Option (List EvZ) := parseG (s.length + 1) acc s

structure Ev64 (e : EvZ) : Prop where
  w : In64 e.w
  a : In64 e.a
  t : In64 e.t
  v : In64 e.v

theorem okE_spec {w : Int} {e : EvZ} : okE w e = true ↔ w < e.w ∧ 1 ≤ e.a ∧ e.a ≤ 3 ∧ 0 ≤ e.t ∧ e.t < 16 := by
  simp only [okE, Bool.and_eq_true, decide_eq_true_eq, and_assoc]

theorem right_app (w : Int) : ∀ (xs ys : List EvZ), rightE w (xs ++ ys) = (rightE w xs && rightE ((xs.getLast?.map (·.w)).getD w) ys)
  | [], ys => by simp [rightE]
  | x :: xs, ys => by
    rw [List.cons_append, rightE, right_app x.w xs ys, rightE, Bool.and_assoc]
    congr 2
    cases xs with
    | nil => rfl
    | cons y ys => simp [List.getLast?_eq_some_getLast]

theorem right_mem {w : Int} : ∀ {xs : List EvZ}, rightE w xs = true → ∀ x ∈ xs, okE w x = true
  | e :: es, h, x, hx => by
    rw [rightE, Bool.and_eq_true] at h
    rcases List.mem_cons.1 hx with rfl | hx
    · exact h.1
    · have h1 := okE_spec.1 (right_mem h.2 x hx)
      have h2 := okE_spec.1 h.1
      exact okE_spec.2 ⟨by omega, h1.2⟩

theorem right_take {w : Int} {xs : List EvZ} (h : rightE w xs = true) (i : Nat) : rightE w (xs.take i) = true := by
  rw [← List.take_append_drop i xs, right_app, Bool.and_eq_true] at h
  exact h.1

theorem right_drop {xs : List EvZ} (h : rightE 0 xs = true) (i : Nat) : rightE 0 (xs.drop i) = true := by
  have h0 := h
  rw [← List.take_append_drop i xs, right_app, Bool.and_eq_true] at h
  cases hd : xs.drop i with
  | nil => rfl
  | cons y ys =>
    rw [hd] at h
    rw [rightE, Bool.and_eq_true] at h ⊢
    refine ⟨right_mem h0 y ?_, h.2.2⟩
    have : y ∈ xs.drop i := by rw [hd]; simp
    exact List.mem_of_mem_drop this

/-- Whether one more may follow is seen from the last one. -/
theorem right_last {xs : List EvZ} {e : EvZ} (h : rightE 0 xs = true) : rightE 0 (xs.drop (xs.length - 1) ++ [e]) = rightE 0 (xs ++ [e]) := by
  rw [right_app, right_app, h, right_drop h]
  congr 2
  rcases List.eq_nil_or_concat xs with rfl | ⟨ys, y, rfl⟩
  · rfl
  · simp

theorem name_plainE : ∀ o : Nat, 1 ≤ o → o < 4 → 32 ∉ namesE.getD o [] ∧ 10 ∉ namesE.getD o [] := by
  intro o h1 h2
  rcases (show o = 1 ∨ o = 2 ∨ o = 3 by omega) with rfl | rfl | rfl <;> decide

theorem words_plainE {e : EvZ} (h : 1 ≤ e.a ∧ e.a ≤ 3) : ∀ p ∈ wordsE e, (32 : UInt8) ∉ p ∧ (10 : UInt8) ∉ p := fun p hp => by
  have key : ∀ n : Int, (32 : UInt8) ∉ Lib.itoa n ∧ (10 : UInt8) ∉ Lib.itoa n := fun n => ⟨fun hm => (itoa_plain _ _ hm).1 rfl, fun hm => (itoa_plain _ _ hm).2 rfl⟩
  simp only [wordsE, List.mem_cons, List.not_mem_nil, or_false] at hp
  rcases hp with rfl | rfl | rfl | rfl
  · exact key _
  · exact name_plainE _ (by omega) (by omega)
  · exact key _
  · exact key _

theorem join_plain : ∀ ps : List (List UInt8), (∀ p ∈ ps, (10 : UInt8) ∉ p) → (10 : UInt8) ∉ joinB 32 ps := by
  intro ps
  induction ps with
  | nil => intro _; simp [joinB]
  | cons p ps ih =>
    intro hp
    cases ps with
    | nil => exact hp p (by simp)
    | cons q qs =>
      rw [joinB_cons (by simp)]
      intro hm
      rcases List.mem_append.1 hm with hm | hm
      · exact hp p (by simp) hm
      · rcases List.mem_cons.1 hm with hm | hm
        · exact absurd hm (by decide)
        · exact ih (fun x hx => hp x (by simp [hx])) hm

theorem printE_plain {e : EvZ} (h : 1 ≤ e.a ∧ e.a ≤ 3) : (10 : UInt8) ∉ printE e := join_plain _ fun p hp => (words_plainE h p hp).2

theorem say_name {a : Int} (h : 1 ≤ a ∧ a ≤ 3) : sayB (namesE.getD a.toNat []) = a := by
  rcases (show a = 1 ∨ a = 2 ∨ a = 3 by omega) with rfl | rfl | rfl <;> decide

theorem line_backE {e : EvZ} (h : 1 ≤ e.a ∧ e.a ≤ 3) (h64 : Ev64 e) : lineE (printE e) = some e := by
  unfold lineE printE
  rw [split_join (by simp [wordsE]) fun p hp => (words_plainE h p hp).1]
  unfold wordsE wordsL
  dsimp only
  rw [tok_itoa h64.w.1 h64.w.2, tok_itoa h64.t.1 h64.t.2, tok_itoa h64.v.1 h64.v.2, say_name h]

theorem line_onlyE {l : List UInt8} {e : EvZ} (h : lineE l = some e) (ha : 1 ≤ e.a) : printE e = l ∧ Ev64 e := by
  unfold lineE at h
  generalize hps : splitB 32 l = ps at h
  unfold wordsL at h
  split at h
  · rename_i a n t v
    split at h
    · rename_i x y z hx hy hz
      obtain rfl := Option.some.inj h
      obtain ⟨x1, x2, x3⟩ := tok_back hx
      obtain ⟨y1, y2, y3⟩ := tok_back hy
      obtain ⟨z1, z2, z3⟩ := tok_back hz
      have hn : namesE.getD (sayB n).toNat [] = n ∧ In64 (sayB n) := by
        dsimp only at ha
        unfold sayB at ha ⊢
        repeat' split
        · rename_i h; exact ⟨h.symm, by unfold In64; omega⟩
        · rename_i h; exact ⟨h.symm, by unfold In64; omega⟩
        · rename_i h; exact ⟨h.symm, by unfold In64; omega⟩
        · simp_all
      refine ⟨?_, ⟨x2, x3⟩, hn.2, ⟨y2, y3⟩, ⟨z2, z3⟩⟩
      rw [← join_split 32 l, hps]
      unfold printE wordsE
      dsimp only
      rw [x1, y1, z1, hn.1]
    · cases h
  · cases h

theorem printS_cons (x : EvZ) (p : List EvZ) : printS (x :: p) = printE x ++ 10 :: printS p := by simp [printS]

theorem printS_app (p q : List EvZ) : printS (p ++ q) = printS p ++ printS q := by simp [printS]

theorem parseG_fuel : ∀ (n m : Nat) (acc : List EvZ) (s : List UInt8), s.length < n → s.length < m → parseG n acc s = parseG m acc s
  | 0, _, _, s, h, _ => absurd h (by omega)
  | _, 0, _, s, _, h => absurd h (by omega)
  | n + 1, m + 1, acc, s, h, h' => by
    unfold parseG
    split
    · rfl
    · split
      · rfl
      · rename_i l r hc
        have := cut_len hc
        split
        · rfl
        · rw [parseG_fuel n m _ r (by omega) (by omega)]

theorem parseS_nil (acc : List EvZ) : parseS acc [] = some acc := rfl

theorem parseS_step {acc : List EvZ} {s l r : List UInt8} (h : cutB 10 s = some (l, r)) : parseS acc s = (match lineE l with | none => none | some e => if rightE 0 (acc ++ [e]) = true then parseS (acc ++ [e]) r else none) := by
  have := cut_len h
  have hs : s ≠ [] := fun e => by subst e; cases h
  unfold parseS
  rw [parseG, if_neg hs, h]
  dsimp only
  cases lineE l with
  | none => rfl
  | some e =>
    dsimp only
    rw [parseG_fuel s.length (r.length + 1) _ r (by omega) (by omega)]

theorem parseS_cut {acc : List EvZ} {s : List UInt8} (hs : s ≠ []) (h : cutB 10 s = none) : parseS acc s = none := by
  unfold parseS
  rw [parseG, if_neg hs, h]

theorem parse_printS : ∀ (es acc : List EvZ), rightE 0 (acc ++ es) = true → (∀ e ∈ es, Ev64 e) → parseS acc (printS es) = some (acc ++ es)
  | [], acc, _, _ => by simp [printS, parseS_nil]
  | e :: es, acc, h, h64 => by
    have ho := okE_spec.1 (right_mem h e (by simp))
    have hw : 1 ≤ e.a ∧ e.a ≤ 3 := ⟨ho.2.1, ho.2.2.1⟩
    have hcons : acc ++ e :: es = acc ++ [e] ++ es := by simp
    rw [hcons] at h ⊢
    rw [printS_cons, parseS_step (cut_app (printE_plain hw)), line_backE hw (h64 e (by simp))]
    dsimp only
    have h1 := h
    rw [right_app, Bool.and_eq_true] at h1
    rw [if_pos h1.1, parse_printS es (acc ++ [e]) h fun x hx => h64 x (by simp [hx])]

theorem parseG_back : ∀ (n : Nat) (acc : List EvZ) (s : List UInt8) (p : List EvZ), parseG n acc s = some p → rightE 0 acc = true → rightE 0 p = true ∧ ∃ es, p = acc ++ es ∧ printS es = s ∧ ∀ e ∈ es, Ev64 e
  | 0, _, s, p, h, _ => by cases h
  | n + 1, acc, s, p, h, hr => by
    unfold parseG at h
    split at h
    · rename_i hs
      obtain rfl := Option.some.inj h
      exact ⟨hr, [], by simp, hs.symm, by simp⟩
    · split at h
      · cases h
      · rename_i l r hc
        split at h
        · cases h
        · rename_i e hl
          split at h
          · rename_i hre
            obtain ⟨h0, es, rfl, h2, h3⟩ := parseG_back n _ r p h hre
            have ho := okE_spec.1 (right_mem hre e (by simp))
            obtain ⟨h5, h6⟩ := line_onlyE hl ho.2.1
            refine ⟨h0, e :: es, by simp, by rw [printS_cons, h5, h2, ← (cut_some hc).1], fun y hy => ?_⟩
            rcases List.mem_cons.1 hy with rfl | hy
            · exact h6
            · exact h3 y hy
          · cases h

theorem parse_backS {s : List UInt8} {p : List EvZ} (h : parseS [] s = some p) : rightE 0 p = true ∧ printS p = s ∧ ∀ e ∈ p, Ev64 e := by
  obtain ⟨h0, es, h1, h2, h3⟩ := parseG_back _ _ _ _ h rfl
  rw [List.nil_append] at h1
  subst h1
  exact ⟨h0, h2, h3⟩

theorem print_linesS : ∀ {w : Int} (p : List EvZ), rightE w p = true → Lib.countByte (printS p) 10 = p.length
  | _, [], _ => rfl
  | w, x :: p, h => by
    rw [rightE, Bool.and_eq_true] at h
    have ih := print_linesS p h.2
    have ho := okE_spec.1 h.1
    have h0 := count_free (printE_plain ⟨ho.2.1, ho.2.2.1⟩)
    rw [printS_cons]
    unfold Lib.countByte at ih h0 ⊢
    rw [List.count_append, h0, List.count_cons_self, ih]
    simp

theorem printE_len {e : EvZ} (h64 : Ev64 e) : (printE e).length ≤ 67 := by
  have h1 := itoa_len h64.w.1 h64.w.2
  have h2 := itoa_len h64.t.1 h64.t.2
  have h3 := itoa_len h64.v.1 h64.v.2
  have h4 : (namesE.getD e.a.toNat []).length ≤ 4 := by
    rcases Nat.lt_or_ge e.a.toNat 4 with h | h
    · rcases (show e.a.toNat = 0 ∨ e.a.toNat = 1 ∨ e.a.toNat = 2 ∨ e.a.toNat = 3 by omega) with h | h | h | h <;> rw [h] <;> decide
    · rw [List.getD_eq_getElem?_getD, List.getElem?_eq_none (by simpa [namesE] using h)]
      simp
  simp only [printE, wordsE, joinB, List.length_append, List.length_cons]
  omega

theorem printS_len : ∀ (p : List EvZ), (∀ x ∈ p, Ev64 x) → (printS p).length ≤ 68 * p.length
  | [], _ => by simp [printS]
  | x :: p, h => by
    have h1 := printE_len (h x (by simp))
    have ih := printS_len p fun y hy => h y (by simp [hy])
    rw [printS_cons]
    simp only [List.length_append, List.length_cons]
    omega

theorem printS_take {p : List EvZ} {i : Nat} {x : EvZ} (h : p[i]? = some x) : printS (p.take (i + 1)) = printS (p.take i) ++ printE x ++ [10] := by
  have hi := (List.getElem?_eq_some_iff.1 h).1
  rw [List.take_add_one, h, printS_app]
  simp [printS]

end Go.Mac
