/- Lots: who came first is woken first. -/
import Derived.Test.YteblgbclhaajpaaQParkLaw
import Derived.Test.YteblgbclhaajpaaQEqPart
open Go Go.Proofs Go.Mac
set_option maxRecDepth 100000
namespace Go.Mac

/-! ### What is said of lots -/

theorem wakeL_out (c n : Int) : ∀ (ss : List Slp) (m : Nat), (wakeL c n m ss).1 = (atL c ss).take (n - m).toNat
  | [], m => by simp [wakeL, atL]
  | x :: ss, m => by
    rw [wakeL, atL_cons]
    by_cases hx : x.c = c
    · rw [if_pos hx]
      by_cases hm : (m : Int) < n
      · rw [if_pos ⟨hx, hm⟩]
        have : (n - m).toNat = (n - (m + 1 : Nat)).toNat + 1 := by omega
        rw [this]
        show x.t :: (wakeL c n (m + 1) ss).1 = x.t :: _
        rw [wakeL_out c n ss (m + 1)]
        rfl
      · rw [if_neg fun h => hm h.2]
        show (wakeL c n m ss).1 = _
        rw [wakeL_out c n ss m]
        have : (n - m).toNat = 0 := by omega
        rw [this]
        simp
    · rw [if_neg hx, if_neg fun h => hx h.1]
      exact wakeL_out c n ss m

theorem wakeL_kept (c n : Int) : ∀ (ss : List Slp) (m : Nat), atL c (wakeL c n m ss).2 = (atL c ss).drop (n - m).toNat
  | [], m => by simp [wakeL, atL]
  | x :: ss, m => by
    rw [wakeL, atL_cons]
    by_cases hx : x.c = c
    · rw [if_pos hx]
      by_cases hm : (m : Int) < n
      · rw [if_pos ⟨hx, hm⟩]
        have : (n - m).toNat = (n - (m + 1 : Nat)).toNat + 1 := by omega
        rw [this]
        show atL c (wakeL c n (m + 1) ss).2 = _
        rw [wakeL_kept c n ss (m + 1)]
        rfl
      · rw [if_neg fun h => hm h.2]
        show atL c (x :: (wakeL c n m ss).2) = _
        rw [atL_cons, if_pos hx, wakeL_kept c n ss m]
        have : (n - m).toNat = 0 := by omega
        rw [this]
        simp
    · rw [if_neg hx, if_neg fun h => hx h.1]
      show atL c (x :: (wakeL c n m ss).2) = _
      rw [atL_cons, if_neg hx, wakeL_kept c n ss m]
      rfl

theorem wakeL_perm (c n : Int) : ∀ (ss : List Slp) (m : Nat), ((wakeL c n m ss).1 ++ (wakeL c n m ss).2.map (·.t)).Perm (ss.map (·.t))
  | [], m => .refl _
  | x :: ss, m => by
    rw [wakeL]
    split
    · exact (wakeL_perm c n ss (m + 1)).cons x.t
    · exact List.perm_middle.trans ((wakeL_perm c n ss m).cons x.t)

/-- Nobody sleeps twice. -/
def onceL (ss : List Slp) : Prop := (ss.map (·.t)).Nodup

theorem onceL_out {c n : Int} {ss : List Slp} {m : Nat} (h : onceL ss) {t : Int} (ht : t ∈ (wakeL c n m ss).1) : noT (wakeL c n m ss).2 t := by
  have := (wakeL_perm c n ss m).nodup_iff.2 h
  rw [List.nodup_append] at this
  intro x hx e
  exact this.2.2 t ht x.t (List.mem_map_of_mem hx) e.symm

theorem onceL_step {ss : List Slp} (h : onceL ss) (x : NodZ) : onceL (bedStep ss x) := by
  unfold bedStep
  split
  · exact h.sublist (List.eraseP_sublist.map _)
  split
  · exact h
  · rename_i hn
    have hn : (ss.any fun y => y.t == pickZ x.t 16) = false := by simpa using hn
    rw [List.any_eq_false] at hn
    unfold onceL
    rw [List.map_append, List.nodup_append]
    refine ⟨h, by simp, fun a ha b hb => ?_⟩
    obtain ⟨y, hy, rfl⟩ := List.mem_map.1 ha
    have := hn y hy
    simp at hb this
    rw [hb]
    exact this

theorem onceL_bed (l : List NodZ) : onceL (bedL l) := by
  have : ∀ (l : List NodZ) (ss : List Slp), onceL ss → onceL (l.foldl bedStep ss) := by
    intro l
    induction l with
    | nil => exact fun ss h => h
    | cons x l ih => exact fun ss h => ih _ (onceL_step h x)
  exact this l [] (by simp [onceL])

theorem hasT_of {ss : List Slp} {t : Int} (h : ¬ noT ss t) : ∃ i x, hasT ss t i x := by
  induction ss with
  | nil => exact absurd (by simp [noT]) h
  | cons y ss ih =>
    by_cases hy : y.t = t
    · exact ⟨0, y, rfl, hy, fun j z hj => absurd hj (by omega)⟩
    · obtain ⟨i, x, h1, h2, h3⟩ := ih fun h' => h fun z hz => by
        rcases List.mem_cons.1 hz with rfl | hz
        · exact hy
        · exact h' z hz
      refine ⟨i + 1, x, h1, h2, fun j z hj hz => ?_⟩
      cases j with
      | zero => cases hz; exact hy
      | succ j => exact h3 j z (by omega) hz

section
variable {K : AV → List Nat → List PO → Prop} {n : Int} {k : Nat} {nn : Bool} {ss ex : List Slp}

/-- Whether one of a row sleeps: none does. -/
theorem first1 (t : Int) (hk : ss.length = k) (hn : k < 4611686018427387904) (hno : noT ss t) (h : K (bl false) [] (.one [.ptr 1 0] :: [.one [.f (.int .i64 n), .slc 2 0 k none nn], .rows false 2 ((ss ++ ex).map rowS)])) :
    Does Try.prog 25 [i64 t, cv (.ptr 0 0)] (.one [.ptr 1 0] :: [.one [.f (.int .i64 n), .slc 2 0 k none nn], .rows false 2 ((ss ++ ex).map rowS)]) K := by
  refine does Try.func25 rfl (by decide) ?_
  change Does Try.prog 26 _ _ _
  refine Does.on 3 [1, 2] _ _ (lotCell (n := n) (k := k) (nn := nn) (ss := ss) (ex := ex) t hk hn (fun i x hh => absurd hno hh.not) fun _ => ?_)
  exact h

abbrev firstH (out : List Int) (n : Int) (k : Nat) (nn : Bool) (ss ex : List Slp) : List PO := [.rows false 1 (out.map rowZ), .one [.ptr 2 0], .one [.f (.int .i64 n), .slc 3 0 k none nn], .rows false 2 ((ss ++ ex).map rowS)]

theorem indexFirst {out : List Int} {c : Option Nat} {nn' : Bool} (hk : ss.length = k) (hn : k < 4611686018427387904) (ho : out.length < 4611686018427387904) (hno : ∀ t ∈ out, noT ss t) (h : K (i64 (-1)) [] (firstH out n k nn ss ex)) :
    Does Try.prog 43 [cv (.slc 0 0 out.length c nn'), cv (.func 25 [1])] (firstH out n k nn ss ex) K := by
  refine does Try.func43 rfl (by decide) ?_
  refine SS.loop (fun i : Nat => i ≤ out.length) (fun i => [(0, cv (.slc 0 0 out.length c nn')), (1, cv (.func 25 [1])), (7, i64 out.length), (8, i64 i)]) (fun _ => firstH out n k nn ss ex) (fun i => out.length - i) []
    (At.mk' [0, 1, 7, 8] 0 (by simp) ⟨rfl, rfl⟩ rfl rfl (by simp) (by simp) (by simp)) ?_
  intro i hi
  refine S_r ?_
  refine brc_intro (fun h => ?_) (fun _ => h)
  have hlt : i < out.length := by have := of_decide_eq_true h; omega
  obtain ⟨x, hx⟩ : ∃ x, out[i]? = some x := ⟨_, List.getElem?_eq_getElem (by omega)⟩
  refine SS.inlR ?_
  refine at2 (by omega) (by omega) (rd1 (rowZ x) (.int .i64 x) (by simp [hx]) rfl ?_)
  change Does Try.prog 25 _ _ _
  refine Does.on 4 [1, 2, 3] _ _ (first1 (n := n) (k := k) (nn := nn) (ss := ss) (ex := ex) x hk hn (hno x (List.mem_iff_getElem?.2 ⟨i, hx⟩)) ?_)
  refine At.mk' [0, 1, 7, 8] (i + 1) ⟨hlt, by omega⟩ ⟨?_, rfl⟩ rfl rfl (by simp) (by simp) (by simp)
  rw [wrap_i64 _ (by omega) (by omega)]
  rfl

theorem containsFirst {out : List Int} {c : Option Nat} {nn' : Bool} (hk : ss.length = k) (hn : k < 4611686018427387904) (ho : out.length < 4611686018427387904) (hno : ∀ t ∈ out, noT ss t) (h : K (bl false) [] (firstH out n k nn ss ex)) :
    Does Try.prog 24 [cv (.slc 0 0 out.length c nn'), cv (.func 25 [1])] (firstH out n k nn ss ex) K := by
  refine does Try.func24 rfl (by decide) ?_
  change Does Try.prog 43 _ _ _
  exact indexFirst hk hn ho hno h

end

theorem parkFirst (l : List NodZ) (c : Int) (_hc : -9223372036854775808 ≤ c ∧ c ≤ 9223372036854775807) (n : Int) (_hn : -9223372036854775808 ≤ n ∧ n ≤ 9223372036854775807) :
    Does Try.prog 10 [cv (.slc 0 0 l.length none false), i64 c, i64 n] [.rows true 3 (l.map rowNodZ)] fun v _ _ => v = bl true := by
  refine does Try.func10 rfl (by decide) ?_
  change Does Try.prog 19 _ _ _
  refine Does.alone 1 (asleep ?_)
  refine brc_intro (fun _ => fin rfl) (fun h => ?_)
  have hl : l.length ≤ 60 := by have := of_decide_eq_false h; omega
  change Does Try.prog 20 _ _ _
  refine bed l hl fun nn ex hex => ?_
  have hb := bedL_len l l.length
  have hon := onceL_bed l
  rw [List.take_length] at hb
  generalize bedL l = ss at *
  change Does Try.prog 18 _ _ _
  refine Does.alone 4 (pick c 4 (by decide) ?_)
  change Does Try.prog 18 _ _ _
  refine Does.alone 4 (pick n 20 (by decide) ?_)
  have hn0 := pickZ_lt n (n := 20) (by decide)
  generalize pickZ c 4 = c
  generalize pickZ n 20 = n at *
  change Does Try.prog 21 _ _ _
  refine Does.on 4 [1, 2] _ _ (lotAt (n := 16) (k := ss.length) (nn := nn) (ss := ss) (ex := ex) c rfl (by omega) ?_)
  change Does Try.prog 22 _ _ _
  refine Does.on 5 [1, 2] _ _ (lotWake (n := 16) (k := ss.length) (nn := nn) (ss := ss) (ex := ex) (out := (wakeL c n 0 ss).1) (kept := (wakeL c n 0 ss).2) c n rfl rfl (by omega) hex (fun n4 b4 e4 he4 => ?_))
  have hw := wakeL_len c n ss 0
  refine SS.drawR follows (by decide) ?_
  have hmin : (if ((atL c ss).length : Int) < n then ((atL c ss).length : Int) else n) = ((min n.toNat (atL c ss).length : Nat) : Int) := by
    split <;> omega
  rw [hmin]
  refine Or.inl (And.intro (by omega) (And.intro (by omega) ?_))
  have ho := wakeL_out c n ss 0
  have hk := wakeL_kept c n ss 0
  have hno : ∀ t ∈ (wakeL c n 0 ss).1, noT (wakeL c n 0 ss).2 t := fun t ht => onceL_out hon ht
  have hlen := atL_le c ss
  have he1 : (wakeL c n 0 ss).1 = (atL c ss).take (min n.toNat (atL c ss).length) := by
    rw [ho, show (n - (0 : Nat)).toNat = n.toNat by omega]
    rcases Nat.le_total n.toNat (atL c ss).length with h | h
    · rw [Nat.min_eq_left h]
    · rw [Nat.min_eq_right h, List.take_of_length_le h, List.take_of_length_le (Nat.le_refl _)]
  change Does Try.prog 23 _ _ _
  refine Does.on 9 [8, 4] _ _ (equalPart (all1 := (wakeL c n 0 ss).1) (all2 := atL c ss) (o1 := 0) (o2 := 0) (n1 := (wakeL c n 0 ss).1.length) (n2 := min n.toNat (atL c ss).length) (nn1 := b4) (nn2 := false || Nat.blt 0 (atL c ss).length) (wakeL c n 0 ss).1 ((atL c ss).take (min n.toNat (atL c ss).length)) (by omega) rfl (by simp) (by simp) (by simp) (fun _ => ?_) fun h => absurd he1 h)
  repeat' (first | refine And.intro rfl ?_ | refine And.intro (Or.inl (And.intro (by omega) (And.intro (by omega) rfl))) ?_)
  refine Or.inl (And.intro (by omega) (And.intro (by omega) ?_))
  change Does Try.prog 21 _ _ _
  have he2 : atL c (wakeL c n 0 ss).2 = (atL c ss).drop (min n.toNat (atL c ss).length) := by
    rw [hk, show (n - (0 : Nat)).toNat = n.toNat by omega]
    rcases Nat.le_total n.toNat (atL c ss).length with h | h
    · rw [Nat.min_eq_left h]
    · rw [Nat.min_eq_right h, List.drop_of_length_le h, List.drop_of_length_le (Nat.le_refl _)]
  have hlk := atL_le c (wakeL c n 0 ss).2
  refine Does.on 9 [1, 2] _ _ (lotAt (n := 16) (k := (wakeL c n 0 ss).2.length) (nn := n4) (ss := (wakeL c n 0 ss).2) (ex := e4) c rfl (by omega) ?_)
  repeat' (first | refine And.intro rfl ?_ | refine And.intro (Or.inl (And.intro (by omega) (And.intro (by omega) rfl))) ?_)
  change Does Try.prog 23 _ _ _
  refine Does.on 10 [9, 4] _ _ (equalPart (all1 := atL c (wakeL c n 0 ss).2) (all2 := atL c ss) (o1 := 0) (o2 := 0 + min n.toNat (atL c ss).length) (n1 := (atL c (wakeL c n 0 ss).2).length) (n2 := (atL c ss).length - min n.toNat (atL c ss).length) (nn1 := false) (nn2 := false || Nat.blt 0 (atL c ss).length)
    (atL c (wakeL c n 0 ss).2) ((atL c ss).drop (min n.toNat (atL c ss).length)) (by omega) rfl (by simp) (by simp) (by rw [Nat.zero_add]; exact List.take_of_length_le (by simp)) (fun _ => ?_) fun h => absurd he2 h)
  repeat' (first | refine And.intro rfl ?_ | refine And.intro (Or.inl (And.intro (by omega) (And.intro (by omega) rfl))) ?_)
  change Does Try.prog 24 _ _ _
  refine Does.on 10 [8, 3, 1, 2] _ _ (containsFirst (n := 16) (k := (wakeL c n 0 ss).2.length) (nn := n4) (ss := (wakeL c n 0 ss).2) (ex := e4) (out := (wakeL c n 0 ss).1) rfl (by omega) (by omega) hno ?_)
  exact fin rfl

end Go.Mac
