/- Texts that belong together; the first of them: Points in order, and those of one time as they stood. -/
import Derived.Test.YtlimhldkkbaohaaDoorQPoint
import Derived.Test.YtlimhldkkbaohaaDoorMacD
import Derived.Test.YtlimhldkkbaohaaDoorGMachA
import Derived.Test.YtlimhldkkbaohaaDoorGCutMade
import Derived.Test.YtlimhldkkbaohaaDoorQJudge

/- Points in order, and those of one time as they stood. -/
section
open Go Go.Proofs Go.Mac
set_option maxRecDepth 100000
namespace Go.Mac

/-- In order of time. -/
def Srt (l : List PtZ) : Prop := l.Pairwise fun x y => x.w ≤ y.w

/-- The same points, those of one time in the same order. -/
structure Keys (l l' : List PtZ) : Prop where
  len : l'.length = l.length
  flt : ∀ k : Int, l'.filter (fun x => x.w == k) = l.filter (fun x => x.w == k)

def St (l l' : List PtZ) : Prop := Srt l' ∧ Keys l l'

theorem Keys.refl (l : List PtZ) : Keys l l := ⟨rfl, fun _ => rfl⟩
theorem Keys.trans {a b c : List PtZ} (h : Keys a b) (h2 : Keys b c) : Keys a c := ⟨h2.len.trans h.len, fun k => (h2.flt k).trans (h.flt k)⟩
theorem Keys.app {a a' b b' : List PtZ} (h : Keys a a') (h2 : Keys b b') : Keys (a ++ b) (a' ++ b') :=
  ⟨by rw [List.length_append, List.length_append, h.len, h2.len], fun k => by rw [List.filter_append, List.filter_append, h.flt, h2.flt]⟩

theorem Keys.mem {l l' : List PtZ} (h : Keys l l') {x : PtZ} : x ∈ l' ↔ x ∈ l := by
  have := h.flt x.w
  constructor <;> intro hx
  · have h1 : x ∈ l'.filter (fun y => y.w == x.w) := List.mem_filter.2 ⟨hx, by simp⟩
    rw [this] at h1
    exact (List.mem_filter.1 h1).1
  · have h1 : x ∈ l.filter (fun y => y.w == x.w) := List.mem_filter.2 ⟨hx, by simp⟩
    rw [← this] at h1
    exact (List.mem_filter.1 h1).1

theorem flt_nil {l : List PtZ} {k : Int} (h : ∀ x ∈ l, x.w ≠ k) : l.filter (fun x => x.w == k) = [] := by
  rw [List.filter_eq_nil_iff]
  intro x hx
  simpa using h x hx

/-- Two lots change places, of which one is later than the other. -/
theorem Keys.swap {X Y : List PtZ} (h : ∀ x ∈ X, ∀ y ∈ Y, y.w < x.w) : Keys (X ++ Y) (Y ++ X) := by
  refine ⟨by simp [Nat.add_comm], fun k => ?_⟩
  rw [List.filter_append, List.filter_append]
  by_cases hx : ∃ x ∈ X, x.w = k
  · obtain ⟨x, hx, rfl⟩ := hx
    rw [flt_nil (l := Y) fun y hy => by have := h x hx y hy; omega]
    simp
  · rw [flt_nil (l := X) fun x hx' e => hx ⟨x, hx', e⟩]
    simp

theorem Srt.app {X Y : List PtZ} (hx : Srt X) (hy : Srt Y) (h : ∀ x ∈ X, ∀ y ∈ Y, x.w ≤ y.w) : Srt (X ++ Y) := List.pairwise_append.2 ⟨hx, hy, h⟩
theorem Srt.left {X Y : List PtZ} (h : Srt (X ++ Y)) : Srt X := (List.pairwise_append.1 h).1
theorem Srt.right {X Y : List PtZ} (h : Srt (X ++ Y)) : Srt Y := (List.pairwise_append.1 h).2.1
theorem Srt.le {X Y : List PtZ} (h : Srt (X ++ Y)) : ∀ x ∈ X, ∀ y ∈ Y, x.w ≤ y.w := (List.pairwise_append.1 h).2.2
theorem Srt.get {l : List PtZ} (h : Srt l) {i j : Nat} {x y : PtZ} (hij : i ≤ j) (hx : l[i]? = some x) (hy : l[j]? = some y) : x.w ≤ y.w := by
  rcases Nat.lt_or_eq_of_le hij with hij | rfl
  · obtain ⟨h1, rfl⟩ := List.getElem?_eq_some_iff.1 hx
    obtain ⟨h2, rfl⟩ := List.getElem?_eq_some_iff.1 hy
    exact List.pairwise_iff_getElem.1 h i j h1 h2 hij
  · rw [hx] at hy
    obtain rfl := Option.some.inj hy
    exact Int.le_refl _

theorem St.refl {l : List PtZ} (h : Srt l) : St l l := ⟨h, .refl l⟩
theorem St.mem {l l' : List PtZ} (h : St l l') {x : PtZ} : x ∈ l' ↔ x ∈ l := h.2.mem
theorem St.len {l l' : List PtZ} (h : St l l') : l'.length = l.length := h.2.len

/-- Two sorted lots, each cut in two, so that the parts fit crosswise. -/
theorem St.cross {X1 X2 Y1 Y2 L R : List PtZ} (hx : Srt (X1 ++ X2)) (hy : Srt (Y1 ++ Y2)) (h1 : ∀ x ∈ X2, ∀ y ∈ Y1, y.w < x.w) (h2 : ∀ x ∈ X1, ∀ y ∈ Y2, x.w ≤ y.w) (hL : St (X1 ++ Y1) L) (hR : St (X2 ++ Y2) R) : St ((X1 ++ X2) ++ (Y1 ++ Y2)) (L ++ R) := by
  refine ⟨hL.1.app hR.1 fun l hl r hr => ?_, ?_⟩
  · rw [hL.mem, List.mem_append] at hl
    rw [hR.mem, List.mem_append] at hr
    rcases hl with hl | hl <;> rcases hr with hr | hr
    · exact hx.le l hl r hr
    · exact h2 l hl r hr
    · have := h1 r hr l hl; omega
    · exact hy.le l hl r hr
  · have e1 : Keys (X1 ++ X2 ++ (Y1 ++ Y2)) (X1 ++ Y1 ++ (X2 ++ Y2)) := by
      have := (Keys.refl X1).app ((Keys.swap h1).app (Keys.refl Y2))
      simp only [List.append_assoc] at this ⊢
      exact this
    exact e1.trans (hL.2.app hR.2)

/-- One is put among sorted ones. -/
theorem St.front {x : PtZ} {Y1 Y2 : List PtZ} (hy : Srt (Y1 ++ Y2)) (h1 : ∀ y ∈ Y1, y.w < x.w) (h2 : ∀ y ∈ Y2, x.w ≤ y.w) : St ([x] ++ (Y1 ++ Y2)) (Y1 ++ ([x] ++ Y2)) := by
  refine ⟨?_, ?_⟩
  · refine hy.left.app (Srt.app (List.pairwise_singleton _ _) hy.right fun a ha b hb => ?_) fun a ha b hb => ?_
    · obtain rfl := List.mem_singleton.1 ha
      exact h2 b hb
    · rcases List.mem_append.1 hb with hb | hb
      · obtain rfl := List.mem_singleton.1 hb
        have := h1 a ha; omega
      · exact hy.le a ha b hb
  · have := (Keys.swap (X := [x]) (Y := Y1) fun a ha b hb => by obtain rfl := List.mem_singleton.1 ha; exact h1 b hb).app (Keys.refl Y2)
    simp only [List.append_assoc] at this ⊢
    exact this

theorem St.back {y : PtZ} {X1 X2 : List PtZ} (hx : Srt (X1 ++ X2)) (h1 : ∀ x ∈ X1, x.w ≤ y.w) (h2 : ∀ x ∈ X2, y.w < x.w) : St ((X1 ++ X2) ++ [y]) (X1 ++ ([y] ++ X2)) := by
  refine ⟨?_, ?_⟩
  · refine hx.left.app (Srt.app (List.pairwise_singleton _ _) hx.right fun a ha b hb => ?_) fun a ha b hb => ?_
    · obtain rfl := List.mem_singleton.1 ha
      have := h2 b hb; omega
    · rcases List.mem_append.1 hb with hb | hb
      · obtain rfl := List.mem_singleton.1 hb
        exact h1 a ha
      · exact hx.le a ha b hb
  · have := (Keys.refl X1).app (Keys.swap (X := X2) (Y := [y]) fun a ha b hb => by obtain rfl := List.mem_singleton.1 hb; exact h2 a ha)
    simp only [List.append_assoc] at this ⊢
    exact this

/-- What is at a place of three lots. -/
theorem at_mid {A X B : List PtZ} {i : Nat} (h : i < X.length) : (A ++ X ++ B)[A.length + i]? = X[i]? := by
  rw [List.append_assoc, List.getElem?_append_right (by omega), show A.length + i - A.length = i by omega, List.getElem?_append_left h]

theorem cut_at {X : List PtZ} {i : Nat} {x : PtZ} (h : X[i]? = some x) : X = X.take i ++ ([x] ++ X.drop (i + 1)) := by
  obtain ⟨h1, h2⟩ := List.getElem?_eq_some_iff.1 h
  have := List.take_append_drop i X
  rw [List.drop_eq_getElem_cons h1, h2] at this
  exact this.symm

/-- Two neighbours change places. -/
theorem swap_next (A B : List PtZ) (x y : PtZ) : ((A ++ ([x] ++ ([y] ++ B))).set A.length y).set (A.length + 1) x = A ++ ([y] ++ ([x] ++ B)) := by
  simp

end Go.Mac
end

/- lin.effects: a call's points. -/
section
open Go Go.Proofs Go.Mac
set_option maxRecDepth 100000
namespace Go.Mac

/-- What was found so far: the last step of all, and the last one that changed the cell. -/
inductive EfS where
  | s0
  | s1 (w : Int)
  | s2 (w : Int)
  | s3 (c w : Int)

/-- An act of a call, between two steps. -/
def hitB (t frm to : Int) (done : Bool) (a : ActZ) : Bool := a.t == t && (a.c == 0 && (decide (frm < a.w) && !(done && decide (a.w ≥ to))))

def efStep (s : EfS) (a : ActZ) : EfS :=
  if a.o = 9 ∧ a.x ≠ a.y then .s2 a.w
  else match s with
    | .s0 => .s1 a.w
    | .s1 _ => .s1 a.w
    | .s2 c => .s3 c a.w
    | .s3 c _ => .s3 c a.w

def efRun (t frm to : Int) (done : Bool) (l : List ActZ) : EfS := l.foldl (fun s a => if hitB t frm to done a = true then efStep s a else s) .s0

def efPts (t k w : Int) (done : Bool) : EfS → List PtZ
  | .s0 => []
  | .s1 v => if done = true then [⟨v, t, k, false⟩] else []
  | .s2 v => if w = 9 ∧ done = true then [⟨v, t, k, false⟩, ⟨v, t, k, true⟩] else [⟨v, t, k, false⟩]
  | .s3 c v => if w = 9 ∧ done = true then [⟨c, t, k, false⟩, ⟨v, t, k, true⟩] else [⟨c, t, k, false⟩]

/-- A call's points. -/
def effZ (t k w : Int) (acts : List ActZ) (frm to : Int) (done : Bool) : List PtZ := efPts t k w done (efRun t frm to done acts)

theorem efRun_take {t frm to : Int} {done : Bool} {l : List ActZ} {i : Nat} {a : ActZ} (h : l[i]? = some a) : efRun t frm to done (l.take (i + 1)) = if hitB t frm to done a = true then efStep (efRun t frm to done (l.take i)) a else efRun t frm to done (l.take i) := by
  rw [efRun, List.take_add_one, h, List.foldl_append]
  rfl

end Go.Mac
end

/- lin.Points: what comes of calls, acts and events. -/
section
open Go Go.Proofs Go.Mac
set_option maxRecDepth 100000
namespace Go.Mac

/-- When a thread was told, in order. -/
def endT (t : Nat) (el : List EvZ) : List Int := (el.filter fun e => e.t == (t : Int)).map (·.w)

/-- Are events answers to calls, one behind the other? -/
def endsOk (calls : List (List CallZ)) : List EvZ → List EvZ → Bool
  | _, [] => true
  | pre, e :: el => decide (e.a = 3 ∧ 0 ≤ e.t ∧ e.t < calls.length ∧ (endT e.t.toNat pre).length ≠ ((calls.getD e.t.toNat []).length)) && endsOk calls (pre ++ [e]) el

/-- The points of a thread's calls, from one on: those that are answered, and the next one. -/
def thrPts (t : Nat) (acts : List ActZ) : List CallZ → Nat → Int → List Int → List PtZ
  | [], _, _, _ => []
  | c :: cs, k, frm, w :: ws => effZ t k c.w acts frm w true ++ thrPts t acts cs (k + 1) w ws
  | c :: _, k, frm, [] => effZ t k c.w acts frm 9223372036854775807 false

def allPts (calls : List (List CallZ)) (acts : List ActZ) (el : List EvZ) : List PtZ :=
  ((List.range calls.length).map fun t => thrPts t acts (calls.getD t []) 0 0 (endT t el)).flatten

theorem endT_snoc (t : Nat) (el : List EvZ) (e : EvZ) : endT t (el ++ [e]) = if e.t = (t : Int) then endT t el ++ [e.w] else endT t el := by
  rw [endT, List.filter_append, List.map_append]
  by_cases h : e.t = (t : Int)
  · rw [if_pos h]
    simp [endT, h]
  · rw [if_neg h]
    have : (e.t == (t : Int)) = false := by simpa using h
    simp [endT, this]

theorem endT_len (t : Nat) (el : List EvZ) : (endT t el).length ≤ el.length := by
  rw [endT, List.length_map]
  exact List.length_filter_le _ _

/-- The slices while they are made: where each lies. -/
def endE (n : Nat) (lc : Nat → ILoc) (el : List EvZ) : List (Option (ILoc × List (List FC))) := (List.range n).map fun t => some (lc t, (endT t el).map rowZ)

theorem endE_get {n t : Nat} (lc : Nat → ILoc) (el : List EvZ) (h : t < n) : (endE n lc el)[t]? = some (some (lc t, (endT t el).map rowZ)) := by
  rw [endE, List.getElem?_map, List.getElem?_range h]
  rfl

theorem endE_len (n : Nat) (lc : Nat → ILoc) (el : List EvZ) : (endE n lc el).length = n := by simp [endE]

theorem endE_more {n t : Nat} (lc : Nat → ILoc) (el : List EvZ) (e : EvZ) (ht : t < n) (he : e.t = t) (l : ILoc) :
    ((endE n lc el).set t none).set t (some (l, (endT t el).map rowZ ++ [rowZ e.w])) = endE n (fun s => if s = t then l else lc s) (el ++ [e]) := by
  refine List.ext_getElem? fun s => ?_
  rcases Nat.lt_or_ge s n with hs | hs
  · rw [endE_get _ _ hs]
    by_cases hst : s = t
    · subst hst
      rw [List.getElem?_set_self (by rw [List.length_set, endE_len]; exact hs), if_pos rfl, endT_snoc, if_pos he, List.map_append]
      rfl
    · rw [List.getElem?_set_ne (Ne.symm hst), List.getElem?_set_ne (Ne.symm hst), endE_get _ _ hs, if_neg hst, endT_snoc, if_neg fun h => hst (by omega)]
  · rw [List.getElem?_eq_none (by rw [List.length_set, List.length_set, endE_len]; exact hs), List.getElem?_eq_none (by rw [endE_len]; exact hs)]

theorem endE_nil (n : Nat) : List.replicate (n : Int).toNat (some ((⟨0, 0, 0, 1⟩ : ILoc), ([] : List (List FC)))) = endE n (fun _ => ⟨0, 0, 0, 1⟩) [] := by
  rw [Int.toNat_natCast]
  refine List.ext_getElem? fun s => ?_
  rcases Nat.lt_or_ge s n with hs | hs
  · rw [endE_get _ _ hs, List.getElem?_replicate, if_pos hs]
    rfl
  · rw [List.getElem?_eq_none (by simpa using hs), List.getElem?_eq_none (by rw [endE_len]; exact hs)]

/-- What each was told when. -/
def endL (n : Nat) (el : List EvZ) : List (List Int) := (List.range n).map fun t => endT t el

/-- The points of the threads from one on. -/
def ptsFrom (calls : List (List CallZ)) (acts : List ActZ) (el : List EvZ) (t : Nat) : List PtZ :=
  (((List.range calls.length).drop t).map fun t => thrPts t acts (calls.getD t []) 0 0 (endT t el)).flatten

theorem ptsFrom_zero (calls : List (List CallZ)) (acts : List ActZ) (el : List EvZ) : ptsFrom calls acts el 0 = allPts calls acts el := rfl

theorem ptsFrom_end (calls : List (List CallZ)) (acts : List ActZ) (el : List EvZ) {t : Nat} (h : calls.length ≤ t) : ptsFrom calls acts el t = [] := by
  rw [ptsFrom, List.drop_eq_nil_of_le (by simpa using h)]
  rfl

theorem ptsFrom_step {calls : List (List CallZ)} (acts : List ActZ) (el : List EvZ) {t : Nat} {lt : List CallZ} (h : calls[t]? = some lt) : ptsFrom calls acts el t = thrPts t acts lt 0 0 (endT t el) ++ ptsFrom calls acts el (t + 1) := by
  have hl := (List.getElem?_eq_some_iff.1 h).1
  rw [ptsFrom, List.drop_eq_getElem_cons (by simpa using hl), List.map_cons, List.flatten_cons, List.getElem_range, List.getD_eq_getElem?_getD, h]
  rfl

theorem effZ_len (t k w : Int) (acts : List ActZ) (frm to : Int) (done : Bool) : (effZ t k w acts frm to done).length ≤ 2 := by
  rw [effZ]
  cases efRun t frm to done acts <;> simp only [efPts] <;> (try split) <;> simp

theorem effZ_cases (t k w : Int) (acts : List ActZ) (frm to : Int) (done : Bool) : effZ t k w acts frm to done = [] ∨ (∃ x, effZ t k w acts frm to done = [x]) ∨ ∃ x y, effZ t k w acts frm to done = [x, y] := by
  rw [effZ]
  cases efRun t frm to done acts <;> simp only [efPts] <;> (try split) <;> simp

theorem thrPts_len (t : Nat) (acts : List ActZ) : ∀ (cs : List CallZ) (k : Nat) (frm : Int) (ws : List Int), (thrPts t acts cs k frm ws).length ≤ 2 * ws.length + 2
  | [], _, _, ws => by simp [thrPts]
  | c :: cs, k, frm, w :: ws => by
    have h1 := effZ_len t k c.w acts frm w true
    have h2 := thrPts_len t acts cs (k + 1) w ws
    rw [thrPts, List.length_append, List.length_cons]
    omega
  | c :: _, k, frm, [] => by
    have h1 := effZ_len t k c.w acts frm 9223372036854775807 false
    rw [thrPts]
    simp only [List.length_nil]
    omega

theorem filt_sum (el : List EvZ) : ∀ n : Nat, ((List.range n).map fun t => (endT t el).length).sum ≤ el.length := by
  have key : ∀ n : Nat, ((List.range n).map fun t => (endT t el).length).sum = (el.filter fun e => decide (0 ≤ e.t ∧ e.t < (n : Int))).length := by
    intro n
    induction n with
    | zero =>
      rw [List.filter_eq_nil_iff.2]
      · rfl
      · intro e _
        simp
    | succ n ih =>
      rw [List.range_succ, List.map_append, List.sum_append, ih]
      have : ∀ l : List EvZ, (l.filter fun e => decide (0 ≤ e.t ∧ e.t < ((n + 1 : Nat) : Int))).length = (l.filter fun e => decide (0 ≤ e.t ∧ e.t < (n : Int))).length + (endT n l).length := by
        intro l
        induction l with
        | nil => rfl
        | cons e l ih2 =>
          rw [endT, List.length_map] at ih2 ⊢
          rw [List.filter_cons, List.filter_cons, List.filter_cons]
          by_cases h1 : e.t = (n : Int)
          · rw [if_pos (by rw [decide_eq_true_iff]; omega), if_neg (by rw [decide_eq_true_iff]; omega), if_pos (by simpa using h1), List.length_cons, List.length_cons, ih2]
            omega
          · rw [if_neg (c := (e.t == (n : Int)) = true) (by simpa using h1)]
            by_cases h2 : 0 ≤ e.t ∧ e.t < (n : Int)
            · rw [if_pos (by rw [decide_eq_true_iff]; omega), if_pos (by rw [decide_eq_true_iff]; exact h2), List.length_cons, List.length_cons, ih2]
              omega
            · rw [if_neg (by rw [decide_eq_true_iff]; omega), if_neg (by rw [decide_eq_true_iff]; exact h2), ih2]
      rw [this]
      simp
  intro n
  rw [key]
  exact List.length_filter_le _ _

theorem allPts_len (calls : List (List CallZ)) (acts : List ActZ) (el : List EvZ) : (allPts calls acts el).length ≤ 2 * el.length + 2 * calls.length := by
  have h : ∀ l : List Nat, ((l.map fun t => thrPts t acts (calls.getD t []) 0 0 (endT t el)).flatten).length ≤ 2 * (l.map fun t => (endT t el).length).sum + 2 * l.length := by
    intro l
    induction l with
    | nil => simp
    | cons t l ih =>
      have := thrPts_len t acts (calls.getD t []) 0 0 (endT t el)
      rw [List.map_cons, List.flatten_cons, List.length_append, List.map_cons, List.sum_cons, List.length_cons]
      omega
  have h1 := h (List.range calls.length)
  have h2 := filt_sum el calls.length
  rw [List.length_range] at h1
  rw [allPts]
  omega

end Go.Mac
end

/- What points there are, call by call; and that they are told in order. -/
section
open Go Go.Proofs Go.Mac
set_option maxRecDepth 100000
namespace Go.Mac

/-- A stable order is one. -/
theorem Srt.uniq : ∀ {a b : List PtZ}, Srt a → Srt b → (∀ k : Int, b.filter (fun x => x.w == k) = a.filter (fun x => x.w == k)) → b = a
  | [], [], _, _, _ => rfl
  | [], y :: b, _, _, h => by
    have := h y.w
    rw [List.filter_cons, if_pos (by simp)] at this
    cases this
  | x :: a, [], _, _, h => by
    have := h x.w
    rw [List.filter_cons, if_pos (by simp)] at this
    cases this
  | x :: a, y :: b, ha, hb, h => by
    have hxb : x ∈ y :: b := by
      have : x ∈ (y :: b).filter (fun z => z.w == x.w) := by rw [h]; simp
      exact (List.mem_filter.1 this).1
    have hya : y ∈ x :: a := by
      have : y ∈ (x :: a).filter (fun z => z.w == y.w) := by rw [← h]; simp
      exact (List.mem_filter.1 this).1
    have h1 : y.w ≤ x.w := by
      rcases List.mem_cons.1 hxb with rfl | hm
      · exact Int.le_refl _
      · exact List.rel_of_pairwise_cons hb hm
    have h2 : x.w ≤ y.w := by
      rcases List.mem_cons.1 hya with rfl | hm
      · exact Int.le_refl _
      · exact List.rel_of_pairwise_cons ha hm
    have hw : y.w = x.w := by omega
    have e := h x.w
    rw [List.filter_cons, List.filter_cons, if_pos (by simpa using hw), if_pos (by simp)] at e
    obtain ⟨rfl, e⟩ := List.cons.inj e
    rw [Srt.uniq (List.Pairwise.of_cons ha) (List.Pairwise.of_cons hb) fun k => ?_]
    have := h k
    rw [List.filter_cons, List.filter_cons] at this
    by_cases hk : y.w = k
    · subst hk
      exact e
    · rw [if_neg (by simpa using hk), if_neg (by simpa using hk)] at this
      exact this

theorem St.key {l l' : List PtZ} (h : St l l') (p : PtZ → Bool) (hp : Srt (l.filter p)) : l'.filter p = l.filter p := by
  refine Srt.uniq hp (List.Pairwise.sublist List.filter_sublist h.1) fun k => ?_
  have := h.2.flt k
  rw [List.filter_filter, List.filter_filter]
  rw [show (fun x : PtZ => x.w == k && p x) = fun x => p x && (x.w == k) from funext fun x => Bool.and_comm _ _, ← List.filter_filter, ← List.filter_filter, this]

/-! ### Call by call -/

/-- When the call ahead was answered. -/
def prevT (ws : List Int) (k : Nat) : Int := if k = 0 then 0 else ws.getD (k - 1) 0

def callPts (t : Nat) (acts : List ActZ) (cs : List CallZ) (ws : List Int) (k : Nat) : List PtZ :=
  match cs[k]? with
  | none => []
  | some c => match ws[k]? with
    | some w => effZ t k c.w acts (prevT ws k) w true
    | none => if k = ws.length then effZ t k c.w acts (prevT ws k) 9223372036854775807 false else []

theorem thrPts_flat (t : Nat) (acts : List ActZ) (cs : List CallZ) (ws : List Int) : ∀ (m k : Nat), m = cs.length - k → k ≤ ws.length →
    thrPts t acts (cs.drop k) k (prevT ws k) (ws.drop k) = (((List.range cs.length).drop k).map (callPts t acts cs ws)).flatten := by
  intro m
  induction m with
  | zero =>
    intro k hm _
    rw [List.drop_eq_nil_of_le (show cs.length ≤ k by omega), List.drop_eq_nil_of_le (show (List.range cs.length).length ≤ k by rw [List.length_range]; omega), thrPts]
    rfl
  | succ m ih =>
    intro k hm hk
    have hkl : k < cs.length := by omega
    rw [List.drop_eq_getElem_cons hkl, List.drop_eq_getElem_cons (show k < (List.range cs.length).length by simpa using hkl), List.map_cons, List.flatten_cons, List.getElem_range]
    have hc : cs[k]? = some cs[k] := List.getElem?_eq_getElem hkl
    rcases Nat.lt_or_eq_of_le hk with hlt | rfl
    · have hw : ws[k]? = some ws[k] := List.getElem?_eq_getElem hlt
      have hp : prevT ws (k + 1) = ws[k] := by
        rw [prevT, if_neg (by omega), Nat.add_sub_cancel, List.getD_eq_getElem?_getD, hw]
        rfl
      rw [List.drop_eq_getElem_cons hlt, thrPts, ← hp, ih (k + 1) (by omega) (by omega), callPts, hc]
      dsimp only
      rw [hw]
      dsimp only
      rw [hp]
    · have hz : ∀ L : List Nat, (∀ j ∈ L, ws.length < j) → (L.map (callPts t acts cs ws)).flatten = [] := by
        intro L
        induction L with
        | nil => intro _; rfl
        | cons j L ih2 =>
          intro hL
          have hj := hL j (List.mem_cons_self ..)
          rw [List.map_cons, List.flatten_cons, ih2 fun i hi => hL i (List.mem_cons_of_mem _ hi), List.append_nil, callPts]
          cases cs[j]? with
          | none => rfl
          | some c =>
            dsimp only
            rw [List.getElem?_eq_none (by omega)]
            dsimp only
            rw [if_neg (by omega)]
      rw [List.drop_length, thrPts, hz _ (fun j hj => ?_), List.append_nil, callPts, hc]
      · dsimp only
        rw [List.getElem?_eq_none (Nat.le_refl _)]
        dsimp only
        rw [if_pos rfl]
      · obtain ⟨i, hi⟩ := List.mem_iff_getElem?.1 hj
        rw [List.getElem?_drop] at hi
        obtain ⟨h1, rfl⟩ := List.getElem?_eq_some_iff.1 hi
        rw [List.getElem_range]
        omega

theorem thrPts_all (t : Nat) (acts : List ActZ) (cs : List CallZ) (ws : List Int) : thrPts t acts cs 0 0 ws = ((List.range cs.length).map (callPts t acts cs ws)).flatten :=
  thrPts_flat t acts cs ws _ 0 rfl (Nat.zero_le _)

def keyB (t k : Int) (x : PtZ) : Bool := x.t == t && x.k == k

theorem keyB_iff {t k : Int} {x : PtZ} : keyB t k x = true ↔ x.t = t ∧ x.k = k := by simp [keyB]

theorem efPts_key {t k w : Int} {done : Bool} {s : EfS} {x : PtZ} (h : x ∈ efPts t k w done s) : x.t = t ∧ x.k = k := by
  cases s <;> simp only [efPts] at h <;> (try split at h) <;> simp at h <;> (try rcases h with rfl | rfl) <;> (try subst h) <;> exact ⟨rfl, rfl⟩

theorem callPts_key {t : Nat} {acts : List ActZ} {cs : List CallZ} {ws : List Int} {k : Nat} {x : PtZ} (h : x ∈ callPts t acts cs ws k) : x.t = t ∧ x.k = k := by
  rw [callPts] at h
  cases hc : cs[k]? with
  | none => rw [hc] at h; simp at h
  | some c =>
    rw [hc] at h
    dsimp only at h
    cases hw : ws[k]? with
    | none =>
      rw [hw] at h
      dsimp only at h
      split at h
      · exact efPts_key h
      · simp at h
    | some w =>
      rw [hw] at h
      exact efPts_key h

theorem flat_one {f : Nat → List PtZ} {p : PtZ → Bool} {k : Nat} (h : ∀ j, j ≠ k → ∀ x ∈ f j, p x = false) : ∀ n, (((List.range n).map f).flatten).filter p = if k < n then (f k).filter p else [] := by
  intro n
  induction n with
  | zero => rfl
  | succ n ih =>
    rw [List.range_succ, List.map_append, List.flatten_append, List.filter_append, ih]
    simp only [List.map_cons, List.map_nil, List.flatten_cons, List.flatten_nil, List.append_nil]
    by_cases hn : n = k
    · subst hn
      rw [if_neg (by omega), if_pos (by omega)]
      rfl
    · have : (f n).filter p = [] := by
        rw [List.filter_eq_nil_iff]
        intro x hx
        rw [h n hn x hx]
        decide
      rw [this, List.append_nil]
      by_cases hk : k < n
      · rw [if_pos hk, if_pos (by omega)]
      · rw [if_neg hk, if_neg (by omega)]

theorem callPts_filter (t : Nat) (acts : List ActZ) (cs : List CallZ) (ws : List Int) (k : Nat) : (callPts t acts cs ws k).filter (keyB t k) = callPts t acts cs ws k := by
  rw [List.filter_eq_self]
  intro x hx
  exact keyB_iff.2 (callPts_key hx)

theorem thr_key (t : Nat) (acts : List ActZ) (cs : List CallZ) (ws : List Int) (k : Nat) : (thrPts t acts cs 0 0 ws).filter (keyB t k) = callPts t acts cs ws k := by
  rw [thrPts_all, flat_one (k := k) fun j hj x hx => ?_, callPts_filter]
  · split
    · rfl
    · rename_i h
      rw [callPts, List.getElem?_eq_none (by omega)]
  · have := callPts_key hx
    rw [Bool.eq_false_iff]
    intro he
    have := keyB_iff.1 he
    omega

theorem thrPts_t {t : Nat} {acts : List ActZ} {cs : List CallZ} {ws : List Int} {x : PtZ} (h : x ∈ thrPts t acts cs 0 0 ws) : x.t = t ∧ ∃ k : Nat, x.k = k ∧ k < cs.length := by
  rw [thrPts_all] at h
  obtain ⟨l, hl, hx⟩ := List.mem_flatten.1 h
  obtain ⟨k, hk, rfl⟩ := List.mem_map.1 hl
  obtain ⟨h1, h2⟩ := callPts_key hx
  exact ⟨h1, k, h2, List.mem_range.1 hk⟩

/-- A call's points among all. -/
theorem allPts_key {calls : List (List CallZ)} (acts : List ActZ) (el : List EvZ) {t : Nat} {cs : List CallZ} (h : calls[t]? = some cs) (k : Nat) : (allPts calls acts el).filter (keyB t k) = callPts t acts cs (endT t el) k := by
  rw [allPts, flat_one (k := t) fun j hj x hx => ?_]
  · rw [if_pos (List.getElem?_eq_some_iff.1 h).1, List.getD_eq_getElem?_getD, h]
    exact thr_key t acts cs _ k
  · have := (thrPts_t hx).1
    rw [Bool.eq_false_iff]
    intro he
    have := keyB_iff.1 he
    omega

theorem allPts_mem {calls : List (List CallZ)} {acts : List ActZ} {el : List EvZ} {x : PtZ} (h : x ∈ allPts calls acts el) : ∃ (t k : Nat) (cs : List CallZ) (c : CallZ), x.t = t ∧ x.k = k ∧ calls[t]? = some cs ∧ cs[k]? = some c ∧ x ∈ callPts t acts cs (endT t el) k := by
  have hx := h
  rw [allPts] at h
  obtain ⟨l, hl, hx2⟩ := List.mem_flatten.1 h
  obtain ⟨t, ht, rfl⟩ := List.mem_map.1 hl
  have ht := List.mem_range.1 ht
  have hcs : calls[t]? = some calls[t] := List.getElem?_eq_getElem ht
  rw [List.getD_eq_getElem?_getD, hcs] at hx2
  obtain ⟨h1, k, h2, h3⟩ := thrPts_t hx2
  have h3 : k < calls[t].length := h3
  refine ⟨t, k, _, _, h1, h2, hcs, List.getElem?_eq_getElem h3, ?_⟩
  rw [← allPts_key acts el hcs k]
  exact List.mem_filter.2 ⟨hx, keyB_iff.2 ⟨h1, h2⟩⟩

/-! ### In order -/

def Inc (acts : List ActZ) : Prop := acts.Pairwise fun a b => a.w < b.w

/-- What was found lies among a call's acts, and what changed is not behind the last one. -/
def EfOk (t frm to : Int) (done : Bool) (l : List ActZ) : EfS → Prop
  | .s0 => ∀ a ∈ l, hitB t frm to done a = false
  | .s1 w => ∃ a ∈ l, hitB t frm to done a = true ∧ a.w = w
  | .s2 w => ∃ a ∈ l, hitB t frm to done a = true ∧ a.w = w ∧ a.o = 9 ∧ a.x ≠ a.y
  | .s3 c w => (∃ a ∈ l, hitB t frm to done a = true ∧ a.w = c ∧ a.o = 9 ∧ a.x ≠ a.y) ∧ (∃ a ∈ l, hitB t frm to done a = true ∧ a.w = w) ∧ c ≤ w

theorem efRun_snoc (t frm to : Int) (done : Bool) (l : List ActZ) (a : ActZ) : efRun t frm to done (l ++ [a]) = if hitB t frm to done a = true then efStep (efRun t frm to done l) a else efRun t frm to done l := by
  rw [efRun, List.foldl_append]
  rfl

theorem EfOk.run (t frm to : Int) (done : Bool) : ∀ (m : Nat) (l : List ActZ), l.length = m → Inc l → EfOk t frm to done l (efRun t frm to done l) := by
  intro m
  induction m with
  | zero =>
    intro l hl _
    obtain rfl := List.length_eq_zero_iff.1 hl
    intro a ha
    simp at ha
  | succ m ih =>
    intro l hl hI
    obtain ⟨l, a, rfl⟩ : ∃ l' a, l = l' ++ [a] := ⟨l.dropLast, l.getLast (by intro h; simp [h] at hl), (List.dropLast_concat_getLast _).symm⟩
    have hla := List.pairwise_append.1 hI
    have h := ih l (by simpa using hl) hla.1
    have hlt : ∀ b ∈ l, b.w < a.w := fun b hb => hla.2.2 b hb a (by simp)
    have hm : ∀ b, b ∈ l → b ∈ l ++ [a] := fun b hb => List.mem_append_left _ hb
    have ham : a ∈ l ++ [a] := by simp
    rw [efRun_snoc]
    generalize efRun t frm to done l = s at h ⊢
    by_cases hh : hitB t frm to done a = true
    · rw [if_pos hh]
      unfold efStep
      by_cases hc : a.o = 9 ∧ a.x ≠ a.y
      · rw [if_pos hc]
        exact ⟨a, ham, hh, rfl, hc⟩
      · rw [if_neg hc]
        cases s with
        | s0 => exact ⟨a, ham, hh, rfl⟩
        | s1 w => exact ⟨a, ham, hh, rfl⟩
        | s2 c =>
          obtain ⟨b, hb, h1, h2, h3⟩ := h
          refine ⟨⟨b, hm b hb, h1, h2, h3⟩, ⟨a, ham, hh, rfl⟩, ?_⟩
          have := hlt b hb
          omega
        | s3 c w =>
          obtain ⟨⟨b, hb, h1, h2, h3⟩, _⟩ := h
          refine ⟨⟨b, hm b hb, h1, h2, h3⟩, ⟨a, ham, hh, rfl⟩, ?_⟩
          have := hlt b hb
          omega
    · rw [if_neg hh]
      cases s with
      | s0 =>
        intro b hb
        rcases List.mem_append.1 hb with hb | hb
        · exact h b hb
        · simp only [List.mem_singleton] at hb
          subst hb
          simpa using hh
      | s1 w =>
        obtain ⟨b, hb, h⟩ := h
        exact ⟨b, hm b hb, h⟩
      | s2 c =>
        obtain ⟨b, hb, h⟩ := h
        exact ⟨b, hm b hb, h⟩
      | s3 c w =>
        obtain ⟨⟨b, hb, h⟩, ⟨b2, hb2, h2⟩, h3⟩ := h
        exact ⟨⟨b, hm b hb, h⟩, ⟨b2, hm b2 hb2, h2⟩, h3⟩

/-- A call has no point, or one that is not late, or one more that is, of a Pass, behind it. -/
theorem effZ_form {t k w frm to : Int} {acts : List ActZ} {done : Bool} (hI : Inc acts) : effZ t k w acts frm to done = [] ∨ (∃ x, effZ t k w acts frm to done = [x] ∧ x.l = false) ∨ ∃ x y, effZ t k w acts frm to done = [x, y] ∧ x.l = false ∧ y.l = true ∧ x.w ≤ y.w ∧ w = 9 := by
  have h := EfOk.run t frm to done _ acts rfl hI
  rw [effZ]
  cases hs : efRun t frm to done acts with
  | s0 => exact .inl rfl
  | s1 v =>
    simp only [efPts]
    split
    · exact .inr (.inl ⟨_, rfl, rfl⟩)
    · exact .inl rfl
  | s2 v =>
    simp only [efPts]
    split
    · rename_i hw
      exact .inr (.inr ⟨_, _, rfl, rfl, rfl, Int.le_refl _, hw.1⟩)
    · exact .inr (.inl ⟨_, rfl, rfl⟩)
  | s3 c v =>
    rw [hs] at h
    simp only [efPts]
    split
    · rename_i hw
      exact .inr (.inr ⟨_, _, rfl, rfl, rfl, h.2.2, hw.1⟩)
    · exact .inr (.inl ⟨_, rfl, rfl⟩)

theorem callPts_form {t : Nat} {acts : List ActZ} {cs : List CallZ} {ws : List Int} {k : Nat} {c : CallZ} (hc : cs[k]? = some c) (hI : Inc acts) :
    callPts t acts cs ws k = [] ∨ (∃ x, callPts t acts cs ws k = [x] ∧ x.l = false) ∨ ∃ x y, callPts t acts cs ws k = [x, y] ∧ x.l = false ∧ y.l = true ∧ x.w ≤ y.w ∧ c.w = 9 := by
  rw [callPts, hc]
  dsimp only
  cases ws[k]? with
  | some w => exact effZ_form hI
  | none =>
    dsimp only
    split
    · exact effZ_form hI
    · exact .inl rfl

theorem callPts_srt {t : Nat} {acts : List ActZ} {cs : List CallZ} {ws : List Int} {k : Nat} {c : CallZ} (hc : cs[k]? = some c) (hI : Inc acts) : Srt (callPts t acts cs ws k) := by
  rcases callPts_form (t := t) (ws := ws) hc hI with h | ⟨x, h, _⟩ | ⟨x, y, h, _, _, h3, _⟩
  · rw [h]; exact List.Pairwise.nil
  · rw [h]; exact List.pairwise_singleton ..
  · rw [h]
    refine List.pairwise_cons.2 ⟨fun z hz => ?_, List.pairwise_singleton ..⟩
    simp only [List.mem_singleton] at hz
    subst hz
    exact h3

/-- A call's points, as they are told. -/
theorem told_key {calls : List (List CallZ)} {acts : List ActZ} {el : List EvZ} {pts : List PtZ} (hS : St (allPts calls acts el) pts) (hI : Inc acts) {t : Nat} {cs : List CallZ} (h : calls[t]? = some cs) {k : Nat} {c : CallZ} (hc : cs[k]? = some c) :
    pts.filter (keyB t k) = callPts t acts cs (endT t el) k := by
  have e := allPts_key acts el h k
  rw [← e]
  refine hS.key _ ?_
  rw [e]
  exact callPts_srt hc hI

def cntK (pts : List PtZ) (i : Nat) (t k : Int) : Nat := ((pts.take i).filter (keyB t k)).length

theorem ord_at {calls : List (List CallZ)} {acts : List ActZ} {el : List EvZ} {pts : List PtZ} (hS : St (allPts calls acts el) pts) (hI : Inc acts) {i : Nat} {x : PtZ} (hx : pts[i]? = some x) :
    ∃ (t k : Nat) (cs : List CallZ) (c : CallZ), x.t = t ∧ x.k = k ∧ calls[t]? = some cs ∧ cs[k]? = some c ∧ ((cntK pts i t k = 0 ∧ x.l = false) ∨ (cntK pts i t k = 1 ∧ x.l = true ∧ c.w = 9)) := by
  have hm : x ∈ allPts calls acts el := hS.2.mem.1 (List.mem_of_getElem? hx)
  obtain ⟨t, k, cs, c, h1, h2, h3, h4, _⟩ := allPts_mem hm
  refine ⟨t, k, cs, c, h1, h2, h3, h4, ?_⟩
  have hf := told_key hS hI h3 h4
  have hlt := (List.getElem?_eq_some_iff.1 hx).1
  have hsp : pts = pts.take i ++ x :: pts.drop (i + 1) := by
    conv => lhs; rw [← List.take_append_drop i pts]
    rw [List.drop_eq_getElem_cons hlt, (List.getElem?_eq_some_iff.1 hx).2]
  rw [hsp, List.filter_append, List.filter_cons, if_pos (keyB_iff.2 ⟨h1, h2⟩)] at hf
  rw [cntK]
  generalize (pts.take i).filter (keyB t k) = F at hf ⊢
  generalize (pts.drop (i + 1)).filter (keyB t k) = G at hf
  rcases callPts_form (t := t) (ws := endT t el) h4 hI with h | ⟨y, h, hy⟩ | ⟨y, z, h, hy, hz, _, hw⟩
  · rw [h] at hf
    simp at hf
  · rw [h] at hf
    cases F with
    | nil =>
      have hf : x :: G = [y] := hf
      obtain ⟨rfl, _⟩ := List.cons.inj hf
      exact .inl ⟨rfl, hy⟩
    | cons f F =>
      have := congrArg List.length hf
      simp only [List.length_append, List.length_cons, List.length_nil] at this
      omega
  · rw [h] at hf
    match F, hf with
    | [], hf =>
      have hf : x :: G = [y, z] := hf
      obtain ⟨rfl, _⟩ := List.cons.inj hf
      exact .inl ⟨rfl, hy⟩
    | [f], hf =>
      have hf : f :: x :: G = [y, z] := hf
      obtain ⟨_, hf⟩ := List.cons.inj hf
      obtain ⟨hxz, _⟩ := List.cons.inj hf
      exact .inr ⟨rfl, by rw [hxz]; exact hz, hw⟩
    | f :: g :: F, hf =>
      have := congrArg List.length hf
      simp only [List.length_append, List.length_cons, List.length_nil] at this
      omega

theorem cntK_succ {pts : List PtZ} {i : Nat} {x : PtZ} (hx : pts[i]? = some x) (t k : Int) : cntK pts (i + 1) t k = if keyB t k x = true then cntK pts i t k + 1 else cntK pts i t k := by
  rw [cntK, List.take_add_one, hx, List.filter_append]
  show (_ ++ [x].filter _).length = _
  rw [List.length_append, List.filter_cons]
  split
  · rfl
  · rfl

end Go.Mac
end
