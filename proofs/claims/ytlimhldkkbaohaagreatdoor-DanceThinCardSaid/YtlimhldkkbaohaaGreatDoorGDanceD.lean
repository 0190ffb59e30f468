/- Texts that belong together; the first of them: Barriers: each kind's pieces. -/
import Derived.Test.YtlimhldkkbaohaaGreatDoorGDanceC

/- Barriers: each kind's pieces. -/
section
open Go Go.Proofs Go.Mac
set_option maxRecDepth 100000
namespace Go.Mac

/-- Instructions of pieces that ask nowhere else, from a place on. -/
def bodyN (P : List Pc) : List InsZ := bodyQ (fun _ => 0) 5 P

def isNet : Pc → Bool
  | .aw _ => true
  | .tl _ _ => true
  | _ => false

theorem bodyQ_net {q q' : Nat → Nat} : ∀ (p : Nat) (P : List Pc), (∀ x ∈ P, isNet x = true) → bodyQ q p P = bodyQ q' p P
  | _, [], _ => rfl
  | p, x :: P, h => by
    rw [bodyQ, bodyQ, bodyQ_net (q := q) (q' := q') _ P fun y hy => h y (by simp [hy])]
    have := h x (by simp)
    cases x <;> first | rfl | cases this

theorem bodyP_net {P : List Pc} (h : ∀ x ∈ P, isNet x = true) : bodyP P = bodyN P := bodyQ_net 5 P h

theorem bodyQ_app (q : Nat → Nat) : ∀ (P Q : List Pc) (p : Nat), bodyQ q p (P ++ Q) = bodyQ q p P ++ bodyQ q (p + offP P P.length) Q
  | [], _, _ => rfl
  | x :: P, Q, p => by
    rw [List.cons_append, bodyQ, bodyQ_app q P Q, bodyQ, List.append_assoc, List.length_cons, offP_cons, Nat.add_assoc]

theorem bodyN_snoc (P : List Pc) (x : Pc) : bodyN (P ++ [x]) = bodyN P ++ pcI (fun _ => 0) (5 + (bodyN P).length) x := by
  rw [bodyN, bodyQ_app, bodyN, bodyQ_len]
  show _ ++ (pcI _ _ x ++ []) = _
  rw [List.append_nil]

theorem bodyN_len (P : List Pc) : (bodyN P).length = offP P P.length := bodyQ_len _ _ _

theorem offP_app (P Q : List Pc) : offP (P ++ Q) (P ++ Q).length = offP P P.length + offP Q Q.length := by
  rw [offP, offP, offP, List.take_length, List.take_length, List.take_length, List.map_append, List.sum_append]

/-- Waiting at so many cells, one behind the other. -/
def awL (b j : Nat) : List Pc := (List.range j).map fun i => .aw (b + i)
def tlL (b j : Nat) : List Pc := (List.range j).map fun i => .tl (b + i) 1

theorem awL_succ (b j : Nat) : awL b (j + 1) = awL b j ++ [.aw (b + j)] := by simp [awL, List.range_succ]
theorem tlL_succ (b j : Nat) : tlL b (j + 1) = tlL b j ++ [.tl (b + j) 1] := by simp [tlL, List.range_succ]

theorem awL_off (b : Nat) : ∀ j, offP (awL b j) (awL b j).length = 5 * j
  | 0 => rfl
  | j + 1 => by rw [awL_succ, offP_app, awL_off b j]; show 5 * j + 5 = _; omega

theorem tlL_off (b : Nat) : ∀ j, offP (tlL b j) (tlL b j).length = 2 * j
  | 0 => rfl
  | j + 1 => by rw [tlL_succ, offP_app, tlL_off b j]; show 2 * j + 2 = _; omega

def staticP (n id : Nat) : List Pc := awL (2 * id + 1) (min 2 (n - (2 * id + 1))) ++ if id = 0 then [.tl n n] else [.tl id 1, .aw n]

def mcsP (n id : Nat) : List Pc := awL (4 * id + 1) (min 4 (n - (4 * id + 1))) ++ ((if 0 < id then [.tl id 1, .aw (n + id)] else []) ++ tlL (n + (2 * id + 1)) (min 2 (n - (2 * id + 1))))

/-- The least number of doublings. -/
def levN (n : Nat) : Nat := if n ≤ 1 then 0 else if n ≤ 2 then 1 else if n ≤ 4 then 2 else if n ≤ 8 then 3 else 4

/-- The first rounds of telling. -/
def spreadU (n id : Nat) : Nat → List Pc
  | 0 => []
  | r + 1 => spreadU n id r ++ [.tl ((id + 2 ^ r) % n * levN n + r) 1, .aw (id * levN n + r)]
def spreadP (n id : Nat) : List Pc := spreadU n id (levN n)

/-- At which level one loses. -/
def loseN (L id : Nat) : Nat → Nat → Nat
  | 0, r => r
  | f + 1, r => if r < L ∧ id / 2 ^ r % 2 = 0 then loseN L id f (r + 1) else r

def tourneyU (n id : Nat) : Nat → List Pc
  | 0 => []
  | r + 1 => tourneyU n id r ++ if id + 2 ^ r < n then [.aw (id * levN n + r)] else []
def tourneyD (n id : Nat) : Nat → List Pc
  | 0 => []
  | r + 1 => (if id + 2 ^ r < n then [.tl (n * levN n + id + 2 ^ r) 1] else []) ++ tourneyD n id r
def tourneyP (n id : Nat) : List Pc :=
  let r := loseN (levN n) id 5 0
  tourneyU n id r ++ ((if r < levN n then [.tl ((id - 2 ^ r) * levN n + r) 1, .aw (n * levN n + id)] else []) ++ tourneyD n id r)

def centralP (n : Nat) : List Pc := [.up 0 n 2, .dn 0 n]

/-- How many nodes there are at a level, and which is the first. -/
def cntN (n : Nat) : Nat → Nat
  | 0 => (n + 1) / 2
  | j + 1 => (cntN n j + 1) / 2
def firstN (n : Nat) : Nat → Nat
  | 0 => 0
  | j + 1 => firstN n j + cntN n j
/-- How many levels. -/
def hgtN (n : Nat) : Nat := if n ≤ 2 then 1 else if n ≤ 4 then 2 else if n ≤ 8 then 3 else 4
def nodeN (n id j : Nat) : Nat := firstN n j + id / 2 ^ (j + 1)
def sizeN (n id j : Nat) : Nat := min 2 ((match j with | 0 => n | j + 1 => cntN n j) - 2 * (id / 2 ^ (j + 1)))
def combU (n id h : Nat) : Nat → List Pc
  | 0 => []
  | j + 1 => combU n id h j ++ [.up (2 * nodeN n id j) (sizeN n id j) (2 * h - j)]
def combD (n id : Nat) : Nat → List Pc
  | 0 => []
  | j + 1 => .dn (2 * nodeN n id j) (sizeN n id j) :: combD n id j
def combineP (n id : Nat) : List Pc := combU n id (hgtN n) (hgtN n) ++ combD n id (hgtN n)

/-- Each party's pieces, of each kind; how many cells. -/
def kindP (k n id : Nat) : List Pc :=
  match k with
  | 1 => centralP n
  | 2 => combineP n id
  | 3 => staticP n id
  | 4 => spreadP n id
  | 5 => tourneyP n id
  | _ => mcsP n id

def kindC (k n : Nat) : Nat :=
  match k with
  | 1 => 2
  | 2 => 2 * firstN n (hgtN n)
  | 3 => n + 1
  | 4 => n * levN n
  | 5 => n * levN n + n
  | _ => 2 * n

/-- Programs of a kind. -/
def kindPs (k n R : Nat) : List (List InsZ) := (List.range n).map fun id => danceP R (kindP k n id)

end Go.Mac
end

/- Barriers: each kind is a network, or a tree: looked at, one by one. -/
section
open Go Go.Proofs Go.Mac
set_option maxRecDepth 100000
namespace Go.Mac

/-- Is it a piece that tells a cell? -/
def tells (c : Nat) : Pc → Bool
  | .tl d _ => d == c
  | _ => false

def whereT (c : Nat) : List Pc → Nat → Option Nat
  | [], _ => none
  | x :: xs, k => if tells c x = true then some k else whereT c xs (k + 1)

/-- Who tells a cell, and with which piece: of lists of pieces, from a thread on. -/
def wrL (c : Nat) : List (List Pc) → Nat → Option (Nat × Nat)
  | [], _ => none
  | Q :: l, t => match whereT c Q 0 with
    | some k => some (t, k)
    | none => wrL c l (t + 1)

def ofL (l : List (List Pc)) (t : Nat) : List Pc := l.getD t []

def netB (l : List (List Pc)) (F : Nat) : Bool :=
  (List.range l.length).all (fun t => (List.range (ofL l t).length).all fun k => match (ofL l t)[k]? with
    | some (.aw c) => (match wrL c l 0 with
      | some (u, p) => decide (u < l.length) && (match (ofL l u)[p]? with | some y => tells c y | none => false)
      | none => false) && dpB (ofL l) (fun c => wrL c l 0) F t k
    | some (.tl c s) => (match wrL c l 0 with
      | some (u, p) => u == t && p == k
      | none => false) && decide (wtN l.length (ofL l) c ≤ s)
    | _ => false) &&
  (List.range l.length).all fun t => (List.range l.length).all fun u => t == u || (decide (0 < (ofL l t).length) && kn (ofL l) (fun c => wrL c l 0) F t ((ofL l t).length - 1) u)

theorem all_range {n : Nat} {f : Nat → Bool} (h : (List.range n).all f = true) {t : Nat} (ht : t < n) : f t = true := List.all_eq_true.1 h t (List.mem_range.2 ht)

/-- What is looked at is so. -/
theorem netB_ok {l : List (List Pc)} {F : Nat} (h : netB l F = true) : NetOk l.length (ofL l) (fun c => wrL c l 0) ∧
    (∀ t, t < l.length → ∀ u, u < l.length → t = u ∨ 0 < (ofL l t).length ∧ kn (ofL l) (fun c => wrL c l 0) F t ((ofL l t).length - 1) u = true) ∧
      ∀ t, t < l.length → ∀ (k c : Nat), (ofL l t)[k]? = some (.aw c) → dpB (ofL l) (fun c => wrL c l 0) F t k = true := by
  rw [netB, Bool.and_eq_true] at h
  obtain ⟨h1, h2⟩ := h
  have key : ∀ t, t < l.length → ∀ (k : Nat) (y : Pc), (ofL l t)[k]? = some y → (match some y with
    | some (.aw c) => (match wrL c l 0 with
      | some (u, p) => decide (u < l.length) && (match (ofL l u)[p]? with | some y => tells c y | none => false)
      | none => false) && dpB (ofL l) (fun c => wrL c l 0) F t k
    | some (.tl c s) => (match wrL c l 0 with
      | some (u, p) => u == t && p == k
      | none => false) && decide (wtN l.length (ofL l) c ≤ s)
    | _ => false) = true := fun t ht k y hy => by
    have := all_range (all_range h1 ht) (List.getElem?_eq_some_iff.1 hy).1
    rw [hy] at this
    exact this
  refine ⟨⟨fun t ht y hy => ?_, fun t ht k c s hk => ?_, fun t ht k c hk => ?_⟩, fun t ht u hu => ?_, fun t ht k c hk => ?_⟩
  · obtain ⟨k, hk⟩ := List.mem_iff_getElem?.1 hy
    have := key t ht k y hk
    cases y with
    | aw c => exact .inl ⟨c, rfl⟩
    | tl c s =>
      simp only [Bool.and_eq_true] at this
      exact .inr ⟨c, s, rfl, of_decide_eq_true this.2⟩
    | up c s j => cases this
    | dn c s => cases this
  · have := key t ht k _ hk
    simp only [Bool.and_eq_true] at this
    have h3 := this.1
    split at h3
    · rename_i u p he
      simp only [Bool.and_eq_true, beq_iff_eq] at h3
      rw [he, h3.1, h3.2]
    · cases h3
  · have := key t ht k _ hk
    simp only [Bool.and_eq_true] at this
    have h3 := this.1
    split at h3
    · rename_i u p he
      simp only [Bool.and_eq_true, decide_eq_true_eq] at h3
      obtain ⟨h4, h5⟩ := h3
      cases hp : (ofL l u)[p]? with
      | none => rw [hp] at h5; cases h5
      | some y =>
        rw [hp] at h5
        cases y with
        | tl d s =>
          have : d = c := by simpa [tells] using h5
          subst this
          exact ⟨u, p, s, he, h4, hp⟩
        | _ => cases h5
    · cases h3
  · have := all_range (all_range h2 ht) hu
    simp only [Bool.or_eq_true, beq_iff_eq, Bool.and_eq_true, decide_eq_true_eq] at this
    exact this
  · have := key t ht k _ hk
    simp only [Bool.and_eq_true] at this
    exact this.2

/-- What all pieces cost in a round; how many instructions there are. -/
def potW (n : Nat) (P : Nat → List Pc) : Nat := rsum n fun t => costR n P (P t)
def sizeW (n : Nat) (P : Nat → List Pc) : Nat := rsum n fun t => 8 + offP (P t) (P t).length

def kindL (k n : Nat) : List (List Pc) := (List.range n).map (kindP k n)

set_option maxHeartbeats 4000000 in
theorem net3 : ((List.range 16).all fun m => netB (kindL 3 (m + 1)) 8) = true := by decide +kernel
set_option maxHeartbeats 4000000 in
theorem net6 : ((List.range 16).all fun m => netB (kindL 6 (m + 1)) 8) = true := by decide +kernel
set_option maxHeartbeats 4000000 in
theorem net4 : ((List.range 16).all fun m => netB (kindL 4 (m + 1)) 8) = true := by decide +kernel
set_option maxHeartbeats 4000000 in
theorem net5 : ((List.range 16).all fun m => netB (kindL 5 (m + 1)) 12) = true := by decide +kernel

end Go.Mac
end

/- Barriers: those that count are trees; what each kind costs; all programs may be. -/
section
open Go Go.Proofs Go.Mac
set_option maxRecDepth 100000
namespace Go.Mac

def isUp (c s j : Nat) : Pc → Bool
  | .up c' s' j' => c' == c && s' == s && j' == j
  | _ => false
def isDn (c s : Nat) : Pc → Bool
  | .dn c' s' => c' == c && s' == s
  | _ => false

def someB (f : Pc → Bool) : Option Pc → Bool
  | some y => f y
  | none => false

def treeB (n N h : Nat) (P : Nat → List Pc) (par sz : Nat → Nat) (p : Nat → Nat → Nat) (lev : Nat → Nat) : Bool :=
  decide (1 ≤ h) && (List.range n).all (fun t => (P t).length == 2 * h && par t == p t 0 && decide (N ≤ par (n + p t (h - 1))) && p t (h - 1) == p 0 (h - 1) &&
    (List.range h).all fun i => someB (isUp (2 * p t i) (sz (p t i)) (2 * h - i)) (P t)[i]? && someB (isDn (2 * p t i) (sz (p t i))) (P t)[2 * h - 1 - i]? && decide (p t i < N) && lev (p t i) == i && (decide (h ≤ i + 1) || par (n + p t i) == p t (i + 1))) &&
  (List.range N).all fun v => sz v == rsum (n + N) (fun x => if par x = v then 1 else 0) && decide (1 ≤ sz v) && (decide (N ≤ par (n + v)) || lev (par (n + v)) == lev v + 1)

theorem treeB_ok {n N h : Nat} {P : Nat → List Pc} {par sz : Nat → Nat} {p : Nat → Nat → Nat} {lev : Nat → Nat} (hb : treeB n N h P par sz p lev = true) : TreeOk n N h P par sz p lev := by
  simp only [treeB, Bool.and_eq_true] at hb
  obtain ⟨⟨h1, h2⟩, h3⟩ := hb
  have ht := fun t (ht : t < n) => all_range h2 ht
  have hv := fun v (hv : v < N) => all_range h3 hv
  simp only [Bool.and_eq_true, Bool.or_eq_true, beq_iff_eq, decide_eq_true_eq] at h1 ht hv
  have hi := fun t (h9 : t < n) i (hi : i < h) => all_range (ht t h9).2 hi
  simp only [Bool.and_eq_true, Bool.or_eq_true, beq_iff_eq, decide_eq_true_eq] at hi
  refine ⟨h1, fun t h9 => (ht t h9).1.1.1.1, fun t h9 i hh => ?_, fun t h9 i hh => ?_, fun t h9 => (ht t h9).1.1.1.2, fun t h9 i hh => ?_, fun t h9 => (ht t h9).1.1.2, fun t h9 i hh => ⟨(hi t h9 i hh).1.1.2, (hi t h9 i hh).1.2⟩, fun v h9 => ⟨(hv v h9).1.1, (hv v h9).1.2⟩, fun v h9 hp => ?_, fun t h9 u hu => ?_⟩
  · have := (hi t h9 i hh).1.1.1.1
    cases hy : (P t)[i]? with
    | none => rw [hy] at this; cases this
    | some y =>
      rw [hy] at this
      cases y with
      | up c s j =>
        simp only [someB, isUp, Bool.and_eq_true, beq_iff_eq] at this
        rw [this.1.1, this.1.2, this.2]
      | _ => cases this
  · have := (hi t h9 i hh).1.1.1.2
    cases hy : (P t)[2 * h - 1 - i]? with
    | none => rw [hy] at this; cases this
    | some y =>
      rw [hy] at this
      cases y with
      | dn c s =>
        simp only [someB, isDn, Bool.and_eq_true, beq_iff_eq] at this
        rw [this.1, this.2]
      | _ => cases this
  · rcases (hi t h9 i (by omega)).2 with h8 | h8
    · omega
    · exact h8
  · rcases (hv v h9).2 with h8 | h8
    · omega
    · exact h8
  · rw [(ht t h9).1.2, (ht u hu).1.2]

/-- At which level a node is; and its parent. -/
def levV (n v : Nat) : Nat := if v < firstN n 1 then 0 else if v < firstN n 2 then 1 else if v < firstN n 3 then 2 else 3
def sizeV (n v : Nat) : Nat := min 2 ((match levV n v with | 0 => n | j + 1 => cntN n j) - 2 * (v - firstN n (levV n v)))
def parV (n x : Nat) : Nat := if x < n then x / 2 else
  if levV n (x - n) + 1 < hgtN n then firstN n (levV n (x - n) + 1) + (x - n - firstN n (levV n (x - n))) / 2 else firstN n (hgtN n)

theorem tree1 : ((List.range 16).all fun m => treeB (m + 1) 1 1 (ofL (kindL 1 (m + 1))) (fun x => if x < m + 1 then 0 else 1) (fun _ => m + 1) (fun _ _ => 0) fun _ => 0) = true := by decide +kernel
theorem tree2 : ((List.range 16).all fun m => treeB (m + 1) (firstN (m + 1) (hgtN (m + 1))) (hgtN (m + 1)) (ofL (kindL 2 (m + 1))) (parV (m + 1)) (sizeV (m + 1)) (nodeN (m + 1)) (levV (m + 1))) = true := by decide +kernel

/-- Costs: of six rounds, and of a thousand and more moves. -/
theorem cost_ok : ((List.range 6).all fun k => (List.range 16).all fun m => decide (potW (m + 1) (ofL (kindL (k + 1) (m + 1))) + 4 * (m + 1) * (if k + 1 = 1 then 1 else if k + 1 = 2 then firstN (m + 1) (hgtN (m + 1)) else 0) ≤ 3 * sizeW (m + 1) (ofL (kindL (k + 1) (m + 1))) ∧
    6 * (potW (m + 1) (ofL (kindL (k + 1) (m + 1))) + 4 * (m + 1) * (if k + 1 = 1 then 1 else if k + 1 = 2 then firstN (m + 1) (hgtN (m + 1)) else 0)) + 64 + 4 * 900 < 20000)) = true := by decide +kernel

/-- Programs that may be. -/
theorem right_ok : ((List.range 6).all fun k => (List.range 16).all fun m => decide (kindC (k + 1) (m + 1) ≤ 300) && (List.range (m + 1)).all fun id => rightZ (danceP 0 (kindP (k + 1) (m + 1) id)) (kindC (k + 1) (m + 1)) && (kindP (k + 1) (m + 1) id).all fun x => pcFit (kindC (k + 1) (m + 1)) x && pcTo (kindP (k + 1) (m + 1) id).length x) = true := by decide +kernel

end Go.Mac
end
