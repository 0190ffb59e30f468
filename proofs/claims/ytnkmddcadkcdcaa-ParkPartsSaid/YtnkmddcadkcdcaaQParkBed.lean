/- Lots: the first look, and a lot behind what was said. -/
import Derived.Test.YtnkmddcadkcdcaaGBase
open Go Go.Proofs Go.Mac
set_option maxRecDepth 100000
namespace Go.Mac

theorem hasT.not {ss : List Slp} {t : Int} {i : Nat} {x : Slp} (h : hasT ss t i x) : ¬ noT ss t := fun h' => h' x (List.mem_iff_getElem?.2 ⟨i, h.1⟩) h.2.1

section
variable {K : AV → List Nat → List PO → Prop}

theorem asleep (hK : K (bl true) [] []) : Does Try.prog 6 [] [] K := by
  refine Does.cut 0 ?_
  refine does Try.func6 rfl (by decide) ?_
  change Does Try.prog 23 _ _ _
  refine lotNew 3 (by decide) ?_
  change Does Try.prog 24 _ _ _
  refine Does.nilH 0 1 2 (by decide) rfl rfl ?_
  refine lotSleep (n := 3) (k := 0) (nn := false) (ss := []) (ex := []) 2 5 (by decide) (by decide) rfl (by decide) (by simp) (fun _ n1 e1 he1 => ?_) (fun i x h => absurd (by simp [noT]) h.not)
  change Does Try.prog 24 _ _ _
  refine lotSleep (n := 3) (k := 1) (nn := n1) (ss := [⟨2, 5⟩]) (ex := e1) 0 5 (by decide) (by decide) rfl (by decide) he1 (fun _ n2 e2 he2 => ?_) (fun i x h => absurd (by simp [noT]) h.not)
  change Does Try.prog 24 _ _ _
  refine lotSleep (n := 3) (k := 2) (nn := n2) (ss := [⟨2, 5⟩, ⟨0, 5⟩]) (ex := e2) 1 6 (by decide) (by decide) rfl (by decide) he2 (fun _ n3 e3 he3 => ?_) (fun i x h => absurd (by simp [noT]) h.not)
  change Does Try.prog 12 _ _ _
  refine lotAt (n := 3) (k := 3) (nn := n3) (ss := [⟨2, 5⟩, ⟨0, 5⟩, ⟨1, 6⟩]) (ex := e3) 5 rfl (by decide) ?_
  change Does Try.prog 9 _ _ _
  refine Does.on 4 [2, 3] _ _ (equalInt (xs := [2, 0]) (ys := [2, 0]) (ro1 := false) (ro2 := false) (by decide) (fun _ => ?_) fun h => absurd rfl h)
  change Does Try.prog 11 _ _ _
  refine Does.on 4 [0, 1] _ _ (lotWake (n := 3) (k := 3) (nn := n3) (ss := [⟨2, 5⟩, ⟨0, 5⟩, ⟨1, 6⟩]) (ex := e3) (out := [2]) (kept := [⟨0, 5⟩, ⟨1, 6⟩]) 5 1 rfl rfl (by decide) he3 (fun n4 b4 e4 he4 => ?_))
  change Does Try.prog 9 _ _ _
  refine Does.on 9 [7, 8] _ _ (equalInt (xs := [2]) (ys := [2]) (ro1 := false) (ro2 := false) (by decide) (fun _ => ?_) fun h => absurd rfl h)
  change Does Try.prog 25 _ _ _
  refine Does.on 9 [0, 1] _ _ (lotCell (n := 3) (k := 2) (nn := n4) (ss := [⟨0, 5⟩, ⟨1, 6⟩]) (ex := e4) 2 rfl (by decide) (fun i x h => absurd (by simp [noT]) h.not) fun _ => ?_)
  change Does Try.prog 25 _ _ _
  refine Does.on 9 [0, 1] _ _ (lotCell (n := 3) (k := 2) (nn := n4) (ss := [⟨0, 5⟩, ⟨1, 6⟩]) (ex := e4) 0 rfl (by decide) (fun i x h => ?_) fun h => absurd (h ⟨0, 5⟩ (by simp)) (by simp))
  have hx : x.c = 5 := by
    obtain ⟨h1, h2, _⟩ := h
    match i, h1 with
    | 0, h1 => cases h1; rfl
    | 1, h1 => cases h1; simp at h2
  rw [hx]
  clear h hx x i
  change Does Try.prog 25 _ _ _
  refine Does.on 9 [0, 1] _ _ (lotCell (n := 3) (k := 2) (nn := n4) (ss := [⟨0, 5⟩, ⟨1, 6⟩]) (ex := e4) 1 rfl (by decide) (fun i x h => ?_) fun h => absurd (h ⟨1, 6⟩ (by simp)) (by simp))
  have hx : x.c = 6 := by
    obtain ⟨h1, h2, _⟩ := h
    match i, h1 with
    | 0, h1 => cases h1; simp at h2
    | 1, h1 => cases h1; rfl
  rw [hx]
  exact ⟨by decide, by simp, rfl, rfl, hK⟩

structure NodZ where
  t : Int
  c : Int
  p : Bool

abbrev rowNodZ (x : NodZ) : List FC := [.int .i64 x.t, .int .i64 x.c, .bool x.p]

def bedStep (ss : List Slp) (x : NodZ) : List Slp :=
  if x.p then ss.eraseP fun y => y.t == pickZ x.t 16 else if (ss.any fun y => y.t == pickZ x.t 16) then ss else ss ++ [⟨pickZ x.t 16, pickZ x.c 4⟩]

/-- Who sleeps behind that. -/
def bedL (l : List NodZ) : List Slp := l.foldl bedStep []

theorem bedL_take (l : List NodZ) (i : Nat) (x : NodZ) (h : l[i]? = some x) : bedL (l.take (i + 1)) = bedStep (bedL (l.take i)) x := by
  have : l.take (i + 1) = l.take i ++ [x] := by rw [List.take_add_one, h]; rfl
  rw [this]
  unfold bedL
  rw [List.foldl_append]
  rfl

theorem bedStep_len (ss : List Slp) (x : NodZ) : (bedStep ss x).length ≤ ss.length + 1 := by
  unfold bedStep
  have := List.length_eraseP_le (p := fun y : Slp => y.t == pickZ x.t 16) (l := ss)
  split
  · omega
  split <;> simp

theorem bedL_len (l : List NodZ) : ∀ i, (bedL (l.take i)).length ≤ i
  | 0 => by simp [bedL]
  | i + 1 => by
    by_cases hi : i < l.length
    · rw [bedL_take l i _ (List.getElem?_eq_getElem hi)]
      have := bedStep_len (bedL (l.take i)) l[i]
      have := bedL_len l i
      omega
    · have := bedL_len l i
      rw [List.take_of_length_le (by omega)] at this ⊢
      omega

theorem noT_any {ss : List Slp} {t : Int} (h : noT ss t) : (ss.any fun y => y.t == t) = false := by
  rw [List.any_eq_false]
  intro x hx
  simpa using h x hx

theorem hasT_any {ss : List Slp} {t : Int} {i : Nat} {x : Slp} (h : hasT ss t i x) : (ss.any fun y => y.t == t) = true := by
  rw [List.any_eq_true]
  exact ⟨x, List.mem_iff_getElem?.2 ⟨i, h.1⟩, by simpa using h.2.1⟩

theorem erase_mid {pre post : List Slp} {x : Slp} {t : Int} (hx : x.t = t) (hp : noT pre t) : (pre ++ x :: post).eraseP (fun y => y.t == t) = pre ++ post := by
  rw [List.eraseP_append_right _ (fun y hy => by simpa using hp y hy), List.eraseP_cons_of_pos (by simpa using hx)]

theorem erase_no {ss : List Slp} {t : Int} (hp : noT ss t) : ss.eraseP (fun y => y.t == t) = ss :=
  List.eraseP_of_forall_not fun y hy => by simpa using hp y hy

/-- What there is behind some of that. -/
abbrev bedH (l : List NodZ) (ss : List Slp) (nn : Bool) (ex : List Slp) : List PO := [.rows true 3 (l.map rowNodZ), .one [.f (.int .i64 16), .slc 2 0 ss.length none nn], .rows false 2 ((ss ++ ex).map rowS)]

theorem bed (l : List NodZ) (hl : l.length ≤ 60) (h : ∀ (nn : Bool) (ex : List Slp), (ex ≠ [] → nn = true) → K (cv (.ptr 1 0)) [] (bedH l (bedL l) nn ex)) :
    Does Try.prog 7 [cv (.slc 0 0 l.length none false)] [.rows true 3 (l.map rowNodZ)] K := by
  refine does Try.func7 rfl (by decide) ?_
  change Does Try.prog 23 _ _ _
  refine Does.alone 1 (lotNew 16 (by decide) ?_)
  refine SS.nilH 1 1 2 (by decide) rfl rfl ?_
  refine SS.loop (fun p : Nat × Bool × List Slp => p.1 ≤ l.length ∧ (p.2.2 ≠ [] → p.2.1 = true)) (fun p => [(3, cv (.ptr 1 0)), (17, cv (.slc 0 0 l.length none false)), (18, i64 l.length), (19, i64 p.1)]) (fun p => bedH l (bedL (l.take p.1)) p.2.1 p.2.2) (fun p => l.length - p.1) [2]
    (At.mk' [3, 17, 18, 19] (0, false, []) ⟨by simp, by simp⟩ ⟨rfl, rfl⟩ rfl rfl (by simp) (by simp) (by simp)) ?_
  rintro ⟨i, nn, ex⟩ ⟨hi, hex⟩
  change i ≤ l.length at hi
  have hle := bedL_len l i
  refine S_r ?_
  refine brc_intro (fun hlt => ?_) (fun hlt => ?_)
  · have hlt : i < l.length := by
      have := of_decide_eq_true hlt
      have : (i : Int) < (l.length : Int) := this
      omega
    obtain ⟨x, hx⟩ : ∃ x, l[i]? = some x := ⟨_, List.getElem?_eq_getElem hlt⟩
    have hb := bedL_take l i x hx
    refine SS.inlR ?_
    refine at2 (by show (0 : Int) ≤ (i : Int); omega) (by show (i : Int) < (l.length : Int); omega) (rdA (rowNodZ x) (gm hx) ?_)
    have hp16 := pickZ_lt x.t (n := 16) (by decide)
    have hp4 := pickZ_lt x.c (n := 4) (by decide)
    refine brc_intro (fun hp => ?_) (fun hp => ?_)
    · change Does Try.prog 8 _ _ _
      refine Does.alone 4 (pick x.t 16 (by decide) ?_)
      change Does Try.prog 26 _ _ _
      refine Does.on 4 [1, 2] _ _ (lotPoke (n := 16) (k := (bedL (l.take i)).length) (nn := nn) (ss := bedL (l.take i)) (ex := ex) (pickZ x.t 16) hp16 rfl (by omega) (fun pre post y hs hy hno => ?_) fun hno => ?_)
      · have e : bedL (l.take (i + 1)) = pre ++ post := by
          rw [hb, bedStep, if_pos hp, hs, erase_mid hy hno]
        refine At.mk' [3, 17, 18, 19] (i + 1, true, ⟨0, 0⟩ :: ex) ⟨⟨by show i + 1 ≤ l.length; omega, by simp⟩, by show l.length - (i + 1) < l.length - i; omega⟩ ⟨?_, rfl⟩ ?_ rfl (by simp) (by simp) (by simp)
        · rw [wrap_i64 _ (by omega) (by omega)]
          rfl
        · show [PO.rows true 3 (l.map rowNodZ), .one [.f (.int .i64 16), .slc 2 0 (pre.length + post.length) none true], .rows false 2 ((pre ++ post ++ ⟨0, 0⟩ :: ex).map rowS)] = bedH l (bedL (l.take (i + 1))) true (⟨0, 0⟩ :: ex)
          rw [e, ← List.length_append]
      · have e : bedL (l.take (i + 1)) = bedL (l.take i) := by
          rw [hb, bedStep, if_pos hp, erase_no hno]
        refine At.mk' [3, 17, 18, 19] (i + 1, nn, ex) ⟨⟨by show i + 1 ≤ l.length; omega, hex⟩, by show l.length - (i + 1) < l.length - i; omega⟩ ⟨?_, rfl⟩ ?_ rfl (by simp) (by simp) (by simp)
        · rw [wrap_i64 _ (by omega) (by omega)]
          rfl
        · show bedH l (bedL (l.take i)) nn ex = bedH l (bedL (l.take (i + 1))) nn ex
          rw [e]
    · have hp' : ¬ x.p = true := by rw [hp]; decide
      refine SS.drawR follows (by decide) ?_
      change Does Try.prog 8 _ _ _
      refine Does.alone 4 (pick x.t 16 (by decide) ?_)
      repeat' refine And.intro rfl ?_
      change Does Try.prog 8 _ _ _
      refine Does.alone 4 (pick x.c 4 (by decide) ?_)
      repeat' refine And.intro rfl ?_
      change Does Try.prog 24 _ _ _
      refine Does.on 4 [1, 2] _ _ (lotSleep (n := 16) (k := (bedL (l.take i)).length) (nn := nn) (ss := bedL (l.take i)) (ex := ex) (pickZ x.t 16) (pickZ x.c 4) hp16 (by omega) rfl (by omega) hex (fun hno nn' ex' hex' => ?_) fun j y hy => ?_)
      · have e : bedL (l.take (i + 1)) = bedL (l.take i) ++ [⟨pickZ x.t 16, pickZ x.c 4⟩] := by
          rw [hb, bedStep, if_neg hp', noT_any hno]
          rfl
        refine At.mk' [3, 17, 18, 19] (i + 1, nn', ex') ⟨⟨by show i + 1 ≤ l.length; omega, hex'⟩, by show l.length - (i + 1) < l.length - i; omega⟩ ⟨?_, rfl⟩ ?_ rfl (by simp) (by simp) (by decide)
        · rw [wrap_i64 _ (by omega) (by omega)]
          rfl
        · show [PO.rows true 3 (l.map rowNodZ), .one [.f (.int .i64 16), .slc 2 0 ((bedL (l.take i)).length + 1) none nn'], .rows false 2 ((bedL (l.take i) ++ [(⟨pickZ x.t 16, pickZ x.c 4⟩ : Slp)] ++ ex').map rowS)] = bedH l (bedL (l.take (i + 1))) nn' ex'
          rw [e, bedH, List.length_append]
          rfl
      · have e : bedL (l.take (i + 1)) = bedL (l.take i) := by
          rw [hb, bedStep, if_neg hp', hasT_any hy]
          rfl
        refine At.mk' [3, 17, 18, 19] (i + 1, nn, ex) ⟨⟨by show i + 1 ≤ l.length; omega, hex⟩, by show l.length - (i + 1) < l.length - i; omega⟩ ⟨?_, rfl⟩ ?_ rfl (by simp) (by simp) (by decide)
        · rw [wrap_i64 _ (by omega) (by omega)]
          rfl
        · show bedH l (bedL (l.take i)) nn ex = bedH l (bedL (l.take (i + 1))) nn ex
          rw [e]
  · have hlt : ¬ (i : Int) < (l.length : Int) := of_decide_eq_false hlt
    have e : l.take i = l := List.take_of_length_le (by omega)
    have : K (cv (.ptr 1 0)) [] (bedH l (bedL (l.take i)) nn ex) := by
      rw [e]
      exact h nn ex hex
    exact this

end
end Go.Mac
