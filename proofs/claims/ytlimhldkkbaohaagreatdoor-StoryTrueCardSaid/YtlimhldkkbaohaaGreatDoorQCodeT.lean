/- A program as a text: what is printed is parsed, and just one text is each program's. -/
import Derived.Test.YtlimhldkkbaohaaGreatDoorQCodeOne
import Derived.Test.YtlimhldkkbaohaaGreatDoorGForm
import Derived.Test.YtlimhldkkbaohaaGreatDoorGNums
open Go Go.Proofs Go.Mac
set_option maxRecDepth 100000
namespace Go.Mac

/-- The place of the k-th number among a line's words. -/
def atZ (op : Int) (k : Nat) : Nat := 1 + (List.range k).countP fun j => fo op j != 0

def rdZ (op : Int) (ps : List (List UInt8)) (k : Nat) : Option Int := if fo op k = 0 then some 0 else (ps[atZ op k]?).bind tokV

def opZ (w : List UInt8) : Option Nat := (List.range 17).find? fun o => nameZ.getD o [] == w

/-- The instruction that a line's words are. -/
def wordsI (ps : List (List UInt8)) : Option InsZ :=
  match opZ (ps.headD []) with
  | none => none
  | some o =>
    match rdZ o ps 0, rdZ o ps 1, rdZ o ps 2, rdZ o ps 3 with
    | some a, some b, some c, some d => if atZ o 4 = ps.length then some ⟨o, a, b, c, d⟩ else none
    | _, _, _, _ => none

def lineZ (l : List UInt8) : Option InsZ := wordsI (splitB 32 l)

def wordsZ (x : InsZ) : List (List UInt8) := nameZ.getD x.op.toNat [] :: ((List.range 4).filter fun k => fo x.op k != 0).map fun k => Lib.itoa (argZ x k)

def printL (x : InsZ) : List UInt8 := joinB 32 (wordsZ x)

def normZ (x : InsZ) : InsZ := ⟨x.op, if fo x.op 0 = 0 then 0 else x.a, if fo x.op 1 = 0 then 0 else x.b, if fo x.op 2 = 0 then 0 else x.c, if fo x.op 3 = 0 then 0 else x.d⟩

def In64 (n : Int) : Prop := -9223372036854775808 ≤ n ∧ n ≤ 9223372036854775807

/-- An op that there is, and numbers. -/
structure InsOk (x : InsZ) : Prop where
  op : 0 ≤ x.op ∧ x.op < 17
  a : In64 x.a
  b : In64 x.b
  c : In64 x.c
  d : In64 x.d

theorem op17 {op : Int} (h : 0 ≤ op ∧ op < 17) : op = 0 ∨ op = 1 ∨ op = 2 ∨ op = 3 ∨ op = 4 ∨ op = 5 ∨ op = 6 ∨ op = 7 ∨ op = 8 ∨ op = 9 ∨ op = 10 ∨ op = 11 ∨ op = 12 ∨ op = 13 ∨ op = 14 ∨ op = 15 ∨ op = 16 := by omega

theorem name_op : ∀ o, o < 17 → opZ (nameZ.getD o []) = some o := by decide

theorem name_plain : ∀ o, o < 17 → 32 ∉ nameZ.getD o [] ∧ 10 ∉ nameZ.getD o [] := by decide

theorem op_name {w : List UInt8} {o : Nat} (h : opZ w = some o) : o < 17 ∧ nameZ.getD o [] = w := by
  have h1 := List.find?_some h
  have h2 := List.mem_of_find?_eq_some h
  exact ⟨List.mem_range.1 h2, by simpa using h1⟩

theorem words_plain {x : InsZ} (h : InsOk x) : ∀ p ∈ wordsZ x, (32 : UInt8) ∉ p ∧ (10 : UInt8) ∉ p := fun p hp => by
  have h17 := h.op
  rcases List.mem_cons.1 hp with rfl | hp
  · exact name_plain _ (by omega)
  · obtain ⟨k, _, rfl⟩ := List.mem_map.1 hp
    exact ⟨fun hm => (itoa_plain _ _ hm).1 rfl, fun hm => (itoa_plain _ _ hm).2 rfl⟩

theorem words_back {x : InsZ} (h : InsOk x) : wordsI (wordsZ x) = some (normZ x) := by
  obtain ⟨op, a, b, c, d⟩ := x
  obtain ⟨h17, ⟨a0, a1⟩, ⟨b0, b1⟩, ⟨c0, c1⟩, ⟨d0, d1⟩⟩ := h
  dsimp only at h17 a0 a1 b0 b1 c0 c1 d0 d1
  have ta := tok_itoa a0 a1
  have tb := tok_itoa b0 b1
  have tc := tok_itoa c0 c1
  have td := tok_itoa d0 d1
  have nm := name_op op.toNat (by omega)
  have ho : ((op.toNat : Nat) : Int) = op := by omega
  unfold wordsI
  have hh : (wordsZ ⟨op, a, b, c, d⟩).headD [] = nameZ.getD op.toNat [] := rfl
  rw [hh, nm]
  dsimp only
  rw [ho]
  rcases op17 h17 with rfl | rfl | rfl | rfl | rfl | rfl | rfl | rfl | rfl | rfl | rfl | rfl | rfl | rfl | rfl | rfl | rfl <;>
    simp [rdZ, wordsZ, atZ, fo, formZ, argZ, normZ, List.range, List.range.loop, List.filter, List.countP, List.countP.go, ta, tb, tc, td]

theorem line_back {x : InsZ} (h : InsOk x) : lineZ (printL x) = some (normZ x) := by
  unfold lineZ printL
  rw [split_join (by simp [wordsZ]) fun p hp => (words_plain h p hp).1]
  exact words_back h

theorem list_getD {α : Type} (d : α) (l : List α) : l = (List.range l.length).map fun i => l.getD i d := by
  refine List.ext_getElem? fun i => ?_
  rw [List.getElem?_map]
  by_cases hi : i < l.length
  · rw [List.getElem?_range hi, List.getElem?_eq_getElem hi, Option.map_some, List.getD_eq_getElem?_getD, List.getElem?_eq_getElem hi]
    rfl
  · rw [List.getElem?_eq_none (by omega), List.getElem?_eq_none (by simp; omega)]
    rfl

theorem rd_spec {op : Int} {ps : List (List UInt8)} {k : Nat} {v : Int} (h : rdZ op ps k = some v) : (fo op k = 0 ∧ v = 0) ∨ (fo op k ≠ 0 ∧ ps.getD (atZ op k) [] = Lib.itoa v ∧ In64 v) := by
  unfold rdZ at h
  split at h
  · rename_i h0
    exact .inl ⟨h0, (Option.some.inj h).symm⟩
  · rename_i h0
    rw [Option.bind_eq_some_iff] at h
    obtain ⟨t, ht, hv⟩ := h
    obtain ⟨h1, h2⟩ := tok_back hv
    exact .inr ⟨h0, by rw [List.getD_eq_getElem?_getD, ht, h1]; rfl, h2⟩

theorem words_only {ps : List (List UInt8)} {x : InsZ} (h : wordsI ps = some x) : wordsZ x = ps ∧ InsOk x ∧ normZ x = x := by
  unfold wordsI at h
  split at h
  · cases h
  rename_i o ho
  obtain ⟨h17, hn⟩ := op_name ho
  split at h
  · rename_i a b c d ha hb hc hd
    split at h
    · rename_i hl
      obtain rfl := Option.some.inj h
      have z0 : In64 0 := ⟨by decide, by decide⟩
      have fin : ∀ {k : Nat} {v : Int}, rdZ o ps k = some v → In64 v := fun hr => by
        rcases rd_spec hr with ⟨_, rfl⟩ | ⟨_, _, h2⟩
        · exact z0
        · exact h2
      refine ⟨?_, ⟨⟨by show (0 : Int) ≤ (o : Int); omega, by show (o : Int) < 17; omega⟩, fin ha, fin hb, fin hc, fin hd⟩, ?_⟩
      · rw [list_getD [] ps, ← hl]
        have hh : ps.getD 0 [] = nameZ.getD o [] := by
          rw [hn]
          cases ps <;> rfl
        have ra := rd_spec ha
        have rb := rd_spec hb
        have rc := rd_spec hc
        have rd := rd_spec hd
        clear ha hb hc hd hl hn ho
        have h17' : o = 0 ∨ o = 1 ∨ o = 2 ∨ o = 3 ∨ o = 4 ∨ o = 5 ∨ o = 6 ∨ o = 7 ∨ o = 8 ∨ o = 9 ∨ o = 10 ∨ o = 11 ∨ o = 12 ∨ o = 13 ∨ o = 14 ∨ o = 15 ∨ o = 16 := by omega
        rcases h17' with rfl | rfl | rfl | rfl | rfl | rfl | rfl | rfl | rfl | rfl | rfl | rfl | rfl | rfl | rfl | rfl | rfl <;>
          simp [atZ, fo, formZ, List.range, List.range.loop, List.countP, List.countP.go] at ra rb rc rd <;>
          simp [wordsZ, atZ, fo, formZ, argZ, List.range, List.range.loop, List.filter, List.countP, List.countP.go, hh, ra, rb, rc, rd] <;> simp_all
      · have nz : ∀ {k : Nat} {v : Int}, rdZ o ps k = some v → (if fo (o : Int) k = 0 then 0 else v) = v := fun hr => by
          rcases rd_spec hr with ⟨h1, rfl⟩ | ⟨h1, _, _⟩
          · rw [if_pos h1]
          · rw [if_neg h1]
        show InsZ.mk _ _ _ _ _ = _
        dsimp only
        rw [nz ha, nz hb, nz hc, nz hd]
    · cases h
  · cases h

theorem line_only {l : List UInt8} {x : InsZ} (h : lineZ l = some x) : printL x = l ∧ InsOk x ∧ normZ x = x := by
  obtain ⟨h1, h2, h3⟩ := words_only h
  exact ⟨by rw [printL, h1, join_split], h2, h3⟩

/-! ### Whole texts -/

def parseF : Nat → List UInt8 → Option (List InsZ)
  | 0, _ => none
  | n + 1, s =>
    if s = [] then some [] else
      match cutB 10 s with
      | none => none
      | some (l, r) =>
        match lineZ l with
        | none => none
        | some x => (parseF n r).map (x :: ·)

def parseZ (s : List UInt8) : Option (List InsZ) := parseF (s.length + 1) s

def printZ (p : List InsZ) : List UInt8 := (p.map fun x => printL x ++ [10]).flatten

theorem cut_len {c : UInt8} {s l r : List UInt8} (h : cutB c s = some (l, r)) : l.length + 1 + r.length = s.length := by
  obtain ⟨rfl, _⟩ := cut_some h
  simp; omega

theorem parse_fuel : ∀ (n m : Nat) (s : List UInt8), s.length < n → s.length < m → parseF n s = parseF m s
  | 0, _, s, h, _ => absurd h (by omega)
  | _, 0, s, _, h => absurd h (by omega)
  | n + 1, m + 1, s, h, h' => by
    unfold parseF
    split
    · rfl
    · split
      · rfl
      · rename_i l r hc
        have := cut_len hc
        split
        · rfl
        · rw [parse_fuel n m r (by omega) (by omega)]

theorem parseZ_nil : parseZ [] = some [] := rfl

theorem parseZ_step {s l r : List UInt8} (h : cutB 10 s = some (l, r)) : parseZ s = (match lineZ l with | none => none | some x => (parseZ r).map (x :: ·)) := by
  have := cut_len h
  have hs : s ≠ [] := fun e => by subst e; cases h
  unfold parseZ
  rw [parseF, if_neg hs, h]
  dsimp only
  rw [parse_fuel s.length (r.length + 1) r (by omega) (by omega)]

theorem parseZ_cut {s : List UInt8} (hs : s ≠ []) (h : cutB 10 s = none) : parseZ s = none := by
  unfold parseZ
  rw [parseF, if_neg hs, h]

theorem printL_plain {x : InsZ} (h : InsOk x) : (10 : UInt8) ∉ printL x := by
  have key : ∀ ps : List (List UInt8), (∀ p ∈ ps, (10 : UInt8) ∉ p) → (10 : UInt8) ∉ joinB 32 ps := by
    intro ps
    induction ps with
    | nil => intro _; simp [joinB]
    | cons p ps ih =>
      intro hp
      cases ps with
      | nil => exact hp p (by simp)
      | cons q qs =>
        rw [joinB_cons (by simp)]
        intro hm
        rcases List.mem_append.1 hm with hm | hm
        · exact hp p (by simp) hm
        · rcases List.mem_cons.1 hm with hm | hm
          · exact absurd hm (by decide)
          · exact ih (fun x hx => hp x (by simp [hx])) hm
  exact key _ fun p hp => (words_plain h p hp).2

theorem printZ_cons (x : InsZ) (p : List InsZ) : printZ (x :: p) = printL x ++ 10 :: printZ p := by
  simp [printZ]

theorem parse_print : ∀ (p : List InsZ), (∀ x ∈ p, InsOk x) → parseZ (printZ p) = some (p.map normZ)
  | [], _ => rfl
  | x :: p, h => by
    have hx := h x (by simp)
    rw [printZ_cons, parseZ_step (cut_app (printL_plain hx)), line_back hx]
    dsimp only
    rw [parse_print p fun y hy => h y (by simp [hy])]
    rfl

theorem parseF_back : ∀ (n : Nat) (s : List UInt8) (p : List InsZ), parseF n s = some p → printZ p = s ∧ ∀ x ∈ p, InsOk x ∧ normZ x = x
  | 0, s, p, h => by cases h
  | n + 1, s, p, h => by
    unfold parseF at h
    split at h
    · rename_i hs
      obtain rfl := Option.some.inj h
      exact ⟨hs.symm, by simp⟩
    · split at h
      · cases h
      · rename_i l r hc
        split at h
        · cases h
        · rename_i x hl
          rw [Option.map_eq_some_iff] at h
          obtain ⟨p', hp', rfl⟩ := h
          obtain ⟨h1, h2⟩ := parseF_back n r p' hp'
          obtain ⟨h3, h4⟩ := line_only hl
          refine ⟨by rw [printZ_cons, h3, h1, ← (cut_some hc).1], fun y hy => ?_⟩
          rcases List.mem_cons.1 hy with rfl | hy
          · exact h4
          · exact h2 y hy

theorem parse_back {s : List UInt8} {p : List InsZ} (h : parseZ s = some p) : printZ p = s ∧ ∀ x ∈ p, InsOk x ∧ normZ x = x := parseF_back _ _ _ h

theorem printZ_app (p q : List InsZ) : printZ (p ++ q) = printZ p ++ printZ q := by simp [printZ]

theorem print_lines : ∀ (p : List InsZ), (∀ x ∈ p, InsOk x) → Lib.countByte (printZ p) 10 = p.length
  | [], _ => rfl
  | x :: p, h => by
    have ih := print_lines p fun y hy => h y (by simp [hy])
    have h0 := count_free (printL_plain (h x (by simp)))
    rw [printZ_cons]
    unfold Lib.countByte at ih h0 ⊢
    rw [List.count_append, h0, List.count_cons_self, ih]
    simp

/-- What may be has noughts where nothing stands. -/
theorem right_norm {cells size : Int} {x : InsZ} (h : okI cells size x = true) : normZ x = x := by
  simp only [okI, Bool.and_eq_true] at h
  obtain ⟨⟨⟨⟨_, ha⟩, hb⟩, hc⟩, hd⟩ := h
  have key : ∀ (k v : Int), fitsZ k v cells size = true → (if k = 0 then 0 else v) = v := fun k v hf => by
    by_cases hk : k = 0
    · rw [if_pos hk]
      rw [fitsZ, if_pos hk] at hf
      exact (by simpa using hf : v = 0).symm
    · rw [if_neg hk]
  show InsZ.mk _ _ _ _ _ = _
  rw [key _ _ ha, key _ _ hb, key _ _ hc, key _ _ hd]

end Go.Mac
