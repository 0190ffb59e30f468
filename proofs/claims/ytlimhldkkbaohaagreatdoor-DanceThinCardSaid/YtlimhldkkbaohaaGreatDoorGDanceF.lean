/- Texts that belong together; the first of them: Barriers of each kind: what holds behind any moves, and in the end. -/
import Derived.Test.YtlimhldkkbaohaaGreatDoorGDanceD
import Derived.Test.YtlimhldkkbaohaaGreatDoorGDanceE
import Derived.Test.YtlimhldkkbaohaaGreatDoorGFinish
import Derived.Test.YtlimhldkkbaohaaGreatDoorGCutMade
import Derived.Test.YtlimhldkkbaohaaGreatDoorQJudged

/- Barriers of each kind: what holds behind any moves, and in the end. -/
section
open Go Go.Proofs Go.Mac
set_option maxRecDepth 100000
namespace Go.Mac

abbrev PP (k n : Nat) : Nat → List Pc := ofL (kindL k n)

theorem PP_get {k n t : Nat} (ht : t < n) : PP k n t = kindP k n t := by
  rw [PP, ofL, kindL, List.getD_eq_getElem?_getD, List.getElem?_map, List.getElem?_range ht]
  rfl

theorem kindL_len (k n : Nat) : (kindL k n).length = n := by rw [kindL, List.length_map, List.length_range]

/-- What holds of a kind. -/
def kindI (k n R : Nat) (A : Nat → AT) (V : Nat → Nat) (ss : List Slp) : Prop :=
  if k = 1 then ∃ b, TI n 1 R 1 (PP k n) (fun x => if x < n then 0 else 1) (fun _ => n) (fun _ _ => 0) b A V ss
  else if k = 2 then ∃ b, TI n (firstN n (hgtN n)) R (hgtN n) (PP k n) (parV n) (sizeV n) (nodeN n) b A V ss
  else NI n R (PP k n) (fun c => wrL c (kindL k n) 0) A V ss

/-- How much it can still do. -/
def kindF (k n R : Nat) (A : Nat → AT) (V : Nat → Nat) (ss : List Slp) : Nat :=
  if k = 1 then phiT n 1 R (PP k n) A V ss else if k = 2 then phiT n (firstN n (hgtN n)) R (PP k n) A V ss else phiN n R (PP k n) A V ss

theorem of16 {f : Nat → Bool} (h : ((List.range 16).all fun m => f (m + 1)) = true) {n : Nat} (hn : 1 ≤ n ∧ n ≤ 16) : f n = true := by
  have := all_range h (t := n - 1) (by omega)
  rwa [show n - 1 + 1 = n by omega] at this

theorem tree_one1 {n : Nat} (hn : 1 ≤ n ∧ n ≤ 16) : TreeOk n 1 1 (PP 1 n) (fun x => if x < n then 0 else 1) (fun _ => n) (fun _ _ => 0) fun _ => 0 :=
  treeB_ok (of16 (f := fun n => treeB n 1 1 (ofL (kindL 1 n)) (fun x => if x < n then 0 else 1) (fun _ => n) (fun _ _ => 0) fun _ => 0) tree1 hn)

theorem tree_two {n : Nat} (hn : 1 ≤ n ∧ n ≤ 16) : TreeOk n (firstN n (hgtN n)) (hgtN n) (PP 2 n) (parV n) (sizeV n) (nodeN n) (levV n) :=
  treeB_ok (of16 (f := fun n => treeB n (firstN n (hgtN n)) (hgtN n) (ofL (kindL 2 n)) (parV n) (sizeV n) (nodeN n) (levV n)) tree2 hn)

theorem net_ok {k n : Nat} (hk : 3 ≤ k ∧ k ≤ 6) (hn : 1 ≤ n ∧ n ≤ 16) : ∃ F, netB (kindL k n) F = true := by
  have : k = 3 ∨ k = 4 ∨ k = 5 ∨ k = 6 := by omega
  rcases this with rfl | rfl | rfl | rfl
  · exact ⟨8, of16 (f := fun n => netB (kindL 3 n) 8) net3 hn⟩
  · exact ⟨8, of16 (f := fun n => netB (kindL 4 n) 8) net4 hn⟩
  · exact ⟨12, of16 (f := fun n => netB (kindL 5 n) 12) net5 hn⟩
  · exact ⟨8, of16 (f := fun n => netB (kindL 6 n) 8) net6 hn⟩

theorem kind_netOk {k n : Nat} (hk : 3 ≤ k ∧ k ≤ 6) (hn : 1 ≤ n ∧ n ≤ 16) : NetOk n (PP k n) fun c => wrL c (kindL k n) 0 := by
  obtain ⟨F, hF⟩ := net_ok hk hn
  have := (netB_ok hF).1
  rwa [kindL_len] at this

/-- EACH KIND IS A BARRIER. -/
theorem kind_bar {k n : Nat} (R : Nat) (hk : 1 ≤ k ∧ k ≤ 6) (hn : 1 ≤ n ∧ n ≤ 16) : Bar n R (PP k n) (kindI k n R) (kindF k n R) := by
  by_cases h1 : k = 1
  · subst h1
    have : Bar n R (PP 1 n) _ _ := tree_bar (R := R) (tree_one1 hn)
    exact this
  by_cases h2 : k = 2
  · subst h2
    have : Bar n R (PP 2 n) _ _ := tree_bar (R := R) (tree_two hn)
    exact this
  · obtain ⟨F, hF⟩ := net_ok (show 3 ≤ k ∧ k ≤ 6 by omega) hn
    obtain ⟨g1, g2, g3⟩ := netB_ok hF
    rw [kindL_len] at g1 g2 g3
    have e1 : kindI k n R = NI n R (PP k n) fun c => wrL c (kindL k n) 0 := by
      funext A V ss
      rw [kindI, if_neg h1, if_neg h2]
    have e2 : kindF k n R = phiN n R (PP k n) := by
      funext A V ss
      rw [kindF, if_neg h1, if_neg h2]
    rw [e1, e2]
    exact net_bar g1 g2 g3

/-- What a round costs. -/
def costK (k n : Nat) : Nat := potW n (PP k n) + 4 * n * (if k = 1 then 1 else if k = 2 then firstN n (hgtN n) else 0)

theorem phi_begin (n R : Nat) (P : Nat → List Pc) : rsum n (fun t => phi n R P (P t) (fun _ => 0) (aslS [] t) ⟨0, 0, 0, .p0⟩) = R * potW n P + 4 * n := by
  show rsum n (fun t => R * costR n P (P t) + 4) = _
  rw [rsum_add, rsum_mul, rsum_same, Nat.mul_comm n 4]
  rfl

theorem kindF_begin (k n R : Nat) : kindF k n R (fun _ => ⟨0, 0, 0, .p0⟩) (fun _ => 0) [] = R * costK k n + 4 * n := by
  rw [kindF, costK]
  by_cases h1 : k = 1
  · rw [if_pos h1, if_pos h1, phiT, phi_begin, rsum_same, Nat.mul_add, Nat.sub_zero, Nat.mul_one, Nat.one_mul]
    rw [Nat.mul_comm (4 * n) R]
    omega
  · rw [if_neg h1, if_neg h1]
    by_cases h2 : k = 2
    · rw [if_pos h2, if_pos h2, phiT, phi_begin, rsum_same, Nat.mul_add, Nat.sub_zero]
      rw [show firstN n (hgtN n) * (4 * n * R) = R * (4 * n * firstN n (hgtN n)) by rw [Nat.mul_comm, Nat.mul_assoc, Nat.mul_comm (4 * n) (R * _), Nat.mul_assoc, Nat.mul_comm (firstN n (hgtN n))]]
      omega
    · rw [if_neg h2, if_neg h2, phiN, phi_begin]
      rfl

theorem cost_le {k n : Nat} (hk : 1 ≤ k ∧ k ≤ 6) (hn : 1 ≤ n ∧ n ≤ 16) : costK k n ≤ 3 * sizeW n (PP k n) ∧ 6 * costK k n + 64 + 4 * 900 < 20000 := by
  have h1 := all_range cost_ok (t := k - 1) (by omega)
  have h2 := all_range h1 (t := n - 1) (by omega)
  rw [show k - 1 + 1 = k by omega, show n - 1 + 1 = n by omega] at h2
  exact of_decide_eq_true h2

theorem okI_let (c s x y : Int) : okI c s ⟨1, 7, x, 0, 0⟩ = okI c s ⟨1, 7, y, 0, 0⟩ := rfl

theorem whole_last (R : Nat) (b : List InsZ) : lastOp (wholeZ R b) = 10 := by
  rw [lastOp, wholeZ, List.getLast?_append, List.getLast?_append]
  rfl

theorem whole_all (R : Nat) (b : List InsZ) (c s : Int) : (wholeZ R b).all (okI c s) = (wholeZ 0 b).all (okI c s) := by
  have h : ∀ R, (wholeZ R b).all (okI c s) = (([⟨1, 0, 1, 0, 0⟩, ⟨1, 7, (R : Int) + 1, 0, 0⟩, ⟨12, 0, 7, 4, 0⟩, ⟨0, 0, 0, 0, 0⟩, ⟨16, 1, 0, 0, 0⟩] : List InsZ).all (okI c s) && (b.all (okI c s) && ([⟨16, 2, 0, 0, 0⟩, ⟨3, 0, 0, 1, 0⟩, ⟨10, 2, 0, 0, 0⟩] : List InsZ).all (okI c s))) := fun R => by
    rw [wholeZ, List.all_append, List.all_append]
  rw [h, h]
  rfl

theorem right_R (R : Nat) (P : List Pc) (c : Int) : rightZ (danceP R P) c = rightZ (danceP 0 P) c := by
  have hl : (danceP R P).length = (danceP 0 P).length := by rw [danceP_len, danceP_len]
  have ho : lastOp (danceP R P) = lastOp (danceP 0 P) := (whole_last _ _).trans (whole_last _ _).symm
  have ha : (danceP R P).all (okI c (danceP R P).length) = (danceP 0 P).all (okI c (danceP 0 P).length) := by
    rw [hl]
    exact whole_all _ _ _ _
  rw [hl] at ha
  rw [rightZ, rightZ, hl, ho, ha]

theorem kind_right {k n id : Nat} (R : Nat) (hk : 1 ≤ k ∧ k ≤ 6) (hn : 1 ≤ n ∧ n ≤ 16) (hid : id < n) : kindC k n ≤ 300 ∧ rightZ (danceP R (kindP k n id)) (kindC k n) = true ∧ ∀ x ∈ kindP k n id, pcFit (kindC k n) x = true ∧ pcTo (kindP k n id).length x = true := by
  have h1 := all_range right_ok (t := k - 1) (by omega)
  have h2 := all_range h1 (t := n - 1) (by omega)
  rw [show k - 1 + 1 = k by omega, show n - 1 + 1 = n by omega, Bool.and_eq_true] at h2
  have h3 := all_range h2.2 hid
  rw [Bool.and_eq_true] at h3
  refine ⟨of_decide_eq_true h2.1, by rw [right_R]; exact h3.1, fun x hx => ?_⟩
  have := List.all_eq_true.1 h3.2 x hx
  rwa [Bool.and_eq_true] at this

theorem kindPs_get {k n R t : Nat} (ht : t < n) : (kindPs k n R)[t]? = some (danceP R (kindP k n t)) := by
  rw [kindPs, List.getElem?_map, List.getElem?_range ht]
  rfl

theorem kindPs_len (k n R : Nat) : (kindPs k n R).length = n := by rw [kindPs, List.length_map, List.length_range]

theorem kindPs_right {k n R : Nat} (hk : 1 ≤ k ∧ k ≤ 6) (hn : 1 ≤ n ∧ n ≤ 16) : ∀ p ∈ kindPs k n R, rightZ p (kindC k n) = true := fun p hp => by
  obtain ⟨id, hid, rfl⟩ := List.mem_map.1 hp
  exact (kind_right R hk hn (List.mem_range.1 hid)).2.1

/-- A barrier at first. -/
def danceM (k n R : Nat) : MZ := mz0 (kindPs k n R) (List.replicate (kindC k n) 0)

theorem dance_begin {k n R : Nat} (hk : 1 ≤ k ∧ k ≤ 6) (hn : 1 ≤ n ∧ n ≤ 16) (hR : R ≤ 20) : DI n (kindC k n) R (PP k n) (kindI k n R) (kindF k n R) (R * costK k n + 4 * n) (fun _ => ⟨0, 0, 0, .p0⟩) (fun _ => 0) (danceM k n R) :=
  ⟨abs_begin (kindPs_len k n R) hn.2 (kind_right R hk hn (show 0 < n by omega)).1 (by omega) (fun t ht => by rw [PP_get ht]; exact kindPs_get ht) (kindPs_right hk hn) (fun t ht x hx => by
    rw [PP_get ht] at hx ⊢
    exact (kind_right R hk hn ht).2.2 x hx), (kind_bar R hk hn).begin, EvI.begin n, by
    show kindF k n R _ _ [] + 0 ≤ _
    rw [kindF_begin]
    exact Nat.le_refl _⟩

/-- Behind moves. -/
theorem dance_moves {k n R : Nat} (hk : 1 ≤ k ∧ k ≤ 6) (hn : 1 ≤ n ∧ n ≤ 16) (hR : R ≤ 20) (l : List MoveZ) : ∃ A V, DI n (kindC k n) R (PP k n) (kindI k n R) (kindF k n R) (R * costK k n + 4 * n + 4 * l.length) A V (movesZ (danceM k n R) l) :=
  DI.moves (kind_bar R hk hn) l ⟨_, _, dance_begin hk hn hR⟩

/-- In the end. -/
theorem dance_finish {k n R : Nat} (hk : 1 ≤ k ∧ k ≤ 6) (hn : 1 ≤ n ∧ n ≤ 16) (hR : R ≤ 6) (l : List MoveZ) (hl : l.length ≤ 900) :
    ∃ A V, DI n (kindC k n) R (PP k n) (kindI k n R) (kindF k n R) (R * costK k n + 4 * n + 4 * l.length) A V (finish (movesZ (danceM k n R) l)) ∧ ∀ t, t < n → (A t).l = .ended := by
  obtain ⟨A, V, h⟩ := dance_moves hk hn (show R ≤ 20 by omega) l
  refine h.finish (kind_bar R hk hn) ?_
  have := (cost_le hk hn).2
  have : R * costK k n ≤ 6 * costK k n := Nat.mul_le_mul_right _ hR
  omega

end Go.Mac
end

/- Barriers behind moves, walked. -/
section
open Go Go.Proofs Go.Mac
set_option maxRecDepth 100000
namespace Go.Mac

theorem short_body {k n id : Nat} (hk : 1 ≤ k ∧ k ≤ 6) (hn : 1 ≤ n ∧ n ≤ 16) (hid : id < n) : (bodyP (kindP k n id)).length ≤ 10000 := by
  have h := (kind_right 0 hk hn hid).2.1
  simp only [rightZ, Bool.and_eq_true, decide_eq_true_eq] at h
  have h2 := h.1.1.2.2
  rw [danceP_len] at h2
  rw [show (bodyP (kindP k n id)).length = offP (kindP k n id) (kindP k n id).length from bodyQ_len _ _ _]
  omega

theorem net_pieces {k n id : Nat} (hk : 3 ≤ k ∧ k ≤ 6) (hn : 1 ≤ n ∧ n ≤ 16) (hid : id < n) : ∀ x ∈ kindP k n id, isNet x = true := fun x hx => by
  have := (kind_netOk hk hn).kind id hid x (by rw [PP_get hid]; exact hx)
  rcases this with ⟨c, rfl⟩ | ⟨c, s, rfl, _⟩ <;> rfl

/-- What it takes to make a kind whose programs are walked. -/
theorem kindOk {k n R : Nat} (hk : 1 ≤ k ∧ k ≤ 6) (hn : 1 ≤ n ∧ n ≤ 16)
    (cells : ∀ K : AV → List Nat → List PO → Prop, K (.tup [.c (.f (.int .i64 (kindC k n))), okP]) [] [] → Does Tryz.prog (cellsF k) [i64 n] [] K)
    (code : ∀ id, id < n → (bodyP (kindP k n id)).length ≤ 10000 → ∀ K : AV → List Nat → List PO → Prop, K (.tup [.c (.slc 0 0 (wholeZ R (bodyP (kindP k n id))).length none true), okP]) [] [.rows false 5 ((wholeZ R (bodyP (kindP k n id))).map rowIns)] → Does Tryz.prog (codeF k) [i64 n, i64 id, i64 R] [] K) :
    KindOk k n R (kindC k n) (kindPs k n R) :=
  ⟨by omega, hn, kindPs_len k n R, (kind_right R hk hn (show 0 < n by omega)).1, kindPs_right hk hn, cells, fun id p hp K hK => by
    have hid := (List.getElem?_eq_some_iff.1 hp).1
    rw [kindPs_len] at hid
    rw [kindPs_get hid] at hp
    obtain rfl := Option.some.inj hp
    exact code id hid (short_body hk hn hid) K hK⟩

theorem kindOk1 {n R : Nat} (hn : 1 ≤ n ∧ n ≤ 16) (hR : R ≤ 20) : KindOk ((1 : Nat) : Int) n R (kindC 1 n) (kindPs 1 n R) :=
  kindOk (by decide) hn (fun K hK => centralCells (K := K) hn hK) fun id hid hb K hK => centralCode (K := K) hn hid hR hb hK

theorem kindOk3 {n R : Nat} (hn : 1 ≤ n ∧ n ≤ 16) (hR : R ≤ 20) : KindOk ((3 : Nat) : Int) n R (kindC 3 n) (kindPs 3 n R) :=
  kindOk (by decide) hn (fun K hK => staticCells (K := K) hn hK) fun id hid hb K hK => by
    rw [bodyP_net (net_pieces (by decide) hn hid)] at hb hK
    exact staticCode (K := K) hn hid hR hb hK

theorem kindOk6 {n R : Nat} (hn : 1 ≤ n ∧ n ≤ 16) (hR : R ≤ 20) : KindOk ((6 : Nat) : Int) n R (kindC 6 n) (kindPs 6 n R) :=
  kindOk (by decide) hn (fun K hK => mcsCells (K := K) hn hK) fun id hid hb K hK => by
    rw [bodyP_net (net_pieces (by decide) hn hid)] at hb hK
    exact mcsCode (K := K) hn hid hR hb hK

/-- A move of one of n threads. -/
def pickM (n : Nat) (x : MoveZ) : MoveZ := ⟨pickZ x.th n, x.pk⟩

section
variable {K : AV → List Nat → List PO → Prop}

theorem floor {k n R : Nat} {ms : List MoveZ} {ro nn : Bool} {c : Option Nat} {l : Nat} (hk : KindOk (k : Int) n R (kindC k n) (kindPs k n R)) (hl : ms.length = l) (hlb : l ≤ 1000000)
    {z : MZ} (hz : movesZ (danceM k n R) (ms.map (pickM n)) = z) (h : ∀ v, okV v → WF z → K (cv (.ptr 1 0)) [] ([.rows ro 2 (ms.map rowMove)] ++ machS 1 z v)) :
    Does Tryz.prog 13 [i64 k, i64 n, i64 R, cv (.slc 0 0 l c nn)] [.rows ro 2 (ms.map rowMove)] K := by
  subst hz
  have hps := hk.len
  obtain ⟨hn1, hn⟩ := hk.n16
  refine does Tryz.func13 rfl (by decide) ?_
  change Does Tryz.prog 22 _ _ _
  refine Does.alone 1 (danceNew hk fun v hv w0 => ?_)
  have w0 : WF (danceM k n R) := w0
  change Does Tryz.prog 32 _ _ _
  refine Does.on 10 [1, 2, 3, 4, 5, 6, 7, 8, 9] _ _ (coreThreads (m := danceM k n R) (v := v) ?_)
  refine brc_intro (fun h => ?_) (fun _ => ?_)
  · exact absurd (show (((kindPs k n R).length : Int) != (n : Int)) = true from h) (by simp [hps])
  refine SS.loop (fun p : Nat × VZ => p.1 ≤ l ∧ okV p.2) (fun p => [(1, i64 n), (9, cv (.ptr 1 0)), (32, cv (.slc 0 0 l c nn)), (33, i64 l), (34, i64 p.1)])
    (fun p => [.rows ro 2 (ms.map rowMove)] ++ machS 1 (movesZ (danceM k n R) ((ms.map (pickM n)).take p.1)) p.2) (fun p => l - p.1) [7, 8, 9]
    (At.mk' [1, 9, 32, 33, 34] (0, v) ⟨by simp, hv⟩ ⟨rfl, rfl⟩ rfl rfl (by simp) (by simp) (by decide)) ?_
  rintro ⟨i, v1⟩ ⟨hik, hv1⟩
  change i ≤ l at hik
  change okV v1 at hv1
  refine S_r ?_
  refine brc_intro (fun hlt => ?_) (fun hlt => ?_)
  · have hlt : i < l := by
      have := of_decide_eq_true hlt
      have : (i : Int) < (l : Int) := this
      omega
    obtain ⟨x, hx⟩ : ∃ x, ms[i]? = some x := ⟨_, List.getElem?_eq_getElem (by omega)⟩
    have hw1 := w0.moves ((ms.map (pickM n)).take i)
    have hnx := movesZ_take (danceM k n R) (ms.map (pickM n)) i (pickM n x) (by simp [hx])
    have hxm : (ms.map rowMove)[0 + Int.toNat (i : Int)]? = some (rowMove x) := by simp [hx]
    refine SS.inlR ?_
    refine at2 (a := (0 : Int) ≤ (i : Int)) (b := (i : Int) < (l : Int)) (by omega) (by omega) (rdA (rowMove x) hxm ?_)
    refine brc_intro (fun hp => ?_) (fun hp => ?_)
    · rw [moveZ, if_pos (show (pickM n x).pk = true from hp)] at hnx
      change Does Tryz.prog 18 _ _ _
      refine Does.alone 11 (pick x.th n (by omega) ?_)
      change Does Tryz.prog 33 _ _ _
      refine Does.on 11 [1, 2, 3, 4, 5, 6, 7, 8, 9] _ _ (corePoke (m := movesZ (danceM k n R) ((ms.map (pickM n)).take i)) (v := v1) hw1 hv1 (pickZ x.th n) (fun v' hv' => ?_) fun e v' hv' => ?_)
      all_goals
        change okV v' at hv'
        rw [show pokeZ (movesZ (danceM k n R) ((ms.map (pickM n)).take i)) (pickZ x.th n) = movesZ (danceM k n R) ((ms.map (pickM n)).take (i + 1)) from hnx.symm]
        refine At.mk' [1, 9, 32, 33, 34] (i + 1, v') ⟨⟨hlt, hv'⟩, by show l - (i + 1) < l - i; omega⟩ ⟨?_, rfl⟩ rfl rfl (by simp) (by simp) (by decide)
        rw [wrap_i64 (i + 1) (by omega) (by omega)]
        rfl
    · rw [moveZ, if_neg (show ¬ (pickM n x).pk = true from fun h => by rw [show (pickM n x).pk = false from hp] at h; cases h)] at hnx
      change Does Tryz.prog 18 _ _ _
      refine Does.alone 11 (pick x.th n (by omega) ?_)
      change Does Tryz.prog 19 _ _ _
      refine Does.on 11 [1, 2, 3, 4, 5, 6, 7, 8, 9] _ _ (coreStep (m := movesZ (danceM k n R) ((ms.map (pickM n)).take i)) (v := v1) hw1 hv1 (pickZ x.th n) (fun _ v' hv' => ?_) fun _ v' hv' => ?_)
      all_goals
        rw [show (stepZ (movesZ (danceM k n R) ((ms.map (pickM n)).take i)) (pickZ x.th n)).2 = movesZ (danceM k n R) ((ms.map (pickM n)).take (i + 1)) from hnx.symm]
        refine At.mk' [1, 9, 32, 33, 34] (i + 1, v') ⟨⟨hlt, hv'⟩, by show l - (i + 1) < l - i; omega⟩ ⟨?_, rfl⟩ rfl rfl (by simp) (by simp) (by decide)
        rw [wrap_i64 (i + 1) (by omega) (by omega)]
        rfl
  · have hlt : ¬ (i : Int) < (l : Int) := of_decide_eq_false hlt
    obtain rfl : i = l := by omega
    rw [show (ms.map (pickM n)).take i = ms.map (pickM n) from List.take_of_length_le (by rw [List.length_map]; omega)]
    exact h v1 hv1 (w0.moves _)

end
end Go.Mac
end

/- The first look at barriers; a barrier's numbers; what is left in its cells. -/
section
open Go Go.Proofs Go.Mac
set_option maxRecDepth 100000
namespace Go.Mac

/-- A machine in the end. -/
def danceB (m : MZ) : Bool := decide (20 < m.k) && allZ m && !stuckZ m && (checkZ 2 m.el).isNone && allG 2 m.el == 1 && anyR m.el == 1

theorem danced_fin : finB 80 (danceM 1 2 1) danceB = true := by decide +kernel

section
variable {K : AV → List Nat → List PO → Prop}

theorem danced (hK : K (bl true) [] [rtH]) : Does Tryz.prog 6 [] [rtH] K := by
  have hk : KindOk ((1 : Nat) : Int) 2 1 (kindC 1 2) (kindPs 1 2 1) := kindOk1 (by decide) (by decide)
  refine does Tryz.func6 rfl (by decide) ?_
  change Does Tryz.prog 22 _ _ _
  refine Does.alone 1 (danceNew hk fun v hv w0 => ?_)
  have w0 : WF (danceM 1 2 1) := w0
  have hf := finB_ok w0 danced_fin
  change Does Tryz.prog 20 _ _ _
  refine Does.on 10 [1, 2, 3, 4, 5, 6, 7, 8, 9] _ _ (fairFinishN (m := danceM 1 2 1) (v := v) w0 hv fun v1 c hv1 hw1 hc => ?_)
  simp only [danceB, Bool.and_eq_true, decide_eq_true_eq, beq_iff_eq, Bool.not_eq_true', Option.isNone_iff_eq_none] at hf
  obtain ⟨⟨⟨⟨⟨f1, f2⟩, f3⟩, f4⟩, f5⟩, f6⟩ := hf
  have hk1 := hw1.k
  have hel := hw1.el
  have hc20 : c > 20 := by
    rw [hc, show (((danceM 1 2 1).k : Nat) : Int) = 0 from rfl, wrap_i64 _ (by omega) (by omega)]
    omega
  clear hc
  generalize finish (danceM 1 2 1) = z1 at hw1 f1 f2 f3 f4 f5 f6 hk1 hel
  change Does Tryz.prog 23 _ _ _
  refine Does.on 10 [1, 2, 3, 4, 5, 6, 7, 8, 9] _ _ (coreEnds (m := z1) (v := v1) hw1 ?_)
  rw [f2, f3]
  change Does Tryz.prog 14 _ _ _
  refine Does.on 10 [1, 2, 3, 4, 5, 6, 7, 8, 9] _ _ (coreEvents (m := z1) (v := v1) (by omega) ?_)
  change Does Tryz.prog 24 _ _ _
  refine Does.on 11 [10] _ _ (rounds (all := z1.el) (l := z1.el) (k := z1.el.length) (n := 2) (ro := false) rfl (fun i _ => rfl) (by decide) (by omega) (fun _ => ?_) fun e i h => absurd (f4.symm.trans h) (by simp))
  rw [f5, f6]
  refine brc_intro (fun _ => ?_) (fun h => ?_)
  · exact hK
  · exact absurd hc20 (of_decide_eq_false h)

end
end Go.Mac
end
