/- A machine of threads that ask for calls, behind moves. -/
import Derived.Test.YtlimhldkkbaohaaDoorGFinish
import Derived.Test.YtlimhldkkbaohaaDoorQCallZ
import Derived.Test.YtlimhldkkbaohaaDoorQMachNew
import Derived.Test.YtlimhldkkbaohaaDoorGMachB
import Derived.Test.YtlimhldkkbaohaaDoorQGone
import Derived.Test.YtlimhldkkbaohaaDoorQCut
open Go Go.Proofs Go.Mac
set_option maxRecDepth 100000
namespace Go.Mac

theorem Does.nilArg4 {P : Program} {f : FuncId} {a1 a2 a3 : AV} {args : List AV} {H : List PO} {K : AV → List Nat → List PO → Prop} (sz : Nat) (hsz : 0 < sz) (h : Does P f (a1 :: a2 :: a3 :: cv (.slc H.length 0 0 none false) :: args) (H ++ [.rows false sz []]) K) :
    Does P f (a1 :: a2 :: a3 :: cv .nilslc :: args) H K := by
  refine ⟨h.fn, fun B R w0 L w vs hrel hvs => ?_⟩
  obtain ⟨v0, us0, rfl, hv0, v1, us1, rfl, hv1, v2, us2, rfl, hv2, v, us, rfl, hv, hus⟩ := hvs
  obtain ⟨g1, g2⟩ := none_sound hrel sz hsz
  obtain rfl : v = .slice none 0 0 := hv
  have hm : ∀ {x : AV} {y : Value}, VA H.length L x y → VA (H ++ [PO.rows false sz []]).length (upd L H.length ⟨⟨0, 0, 0, sz⟩, fun _ => ⟨0, 0, 0, 0⟩⟩) x y := fun {x y} hx => by
    have := hx.mono (M := []) (N' := (H ++ [PO.rows false sz []]).length) (by simp) g1
    rwa [killA_nil] at this
  refine (h.run B R w0 _ w (v0 :: v1 :: v2 :: .slice none 0 0 :: us) g2 ⟨_, _, rfl, hm hv0, _, _, rfl, hm hv1, _, _, rfl, hm hv2, _, _, rfl, ⟨by simp, .inl ⟨rfl, rfl, rfl, fun c' hc' => by cases hc'⟩⟩, ?_⟩).mono ?_
  · have := VAs.mono (M := []) (N' := (H ++ [PO.rows false sz []]).length) (by simp) g1 hus
    rwa [show args.map (killA []) = args from (List.map_congr_left fun x _ => killA_nil x).trans (List.map_id _)] at this
  · rintro e w' ⟨u, he, L', x, M, H', k1, k2, k3, k4, k5⟩
    refine ⟨u, he, L', x, M, H', fun i hi hm => ?_, ?_, k3, k4, k5⟩
    · rw [k1 i (by simp; omega) hm, upd_ne (by omega)]
    · simp at k2; omega

abbrev callsH (ro : Bool) (ls : List (List CallZ)) : PO := .rows2 ro 2 (ls.map fun l => l.map rowCallZ)

section
variable {K : AV → List Nat → List PO → Prop}

theorem made {ls : List (List CallZ)} {ps : List (List InsZ)} {ws : List Int} {ms : List MoveZ} {f : FuncId} {ro ro2 ro3 : Bool} {c c2 c3 : Option Nat} {nn nn2 nn3 : Bool} {n nc k : Nat} (hls : ls.length = n) (hps : ps.length = n) (hws : ws.length = nc) (hms : ms.length = k)
    (hn : n ≤ 16) (hnc : nc ≤ 300) (hk : k ≤ 1000000) (hr : ∀ p ∈ ps, rightZ p nc = true) (hwv : ∀ v ∈ ws, 0 ≤ v ∧ v < 18446744073709551616)
    (hf : ∀ (i : Nat) (l : List CallZ) (p : List InsZ), ls[i]? = some l → ps[i]? = some p → ∀ K : AV → List Nat → List PO → Prop, K (.tup [.c (.slc 1 0 p.length none false), okP]) [] [callsH ro ls, .rows false 5 (p.map rowIns)] →
      Does Tryd.prog f [i64 i, cv (.islc 0 i 0 l.length none false)] [callsH ro ls] K)
    {z : MZ} (hz : movesZ (mz0 ps ws) ms = z) (h : ∀ v, okV v → WF z → K (cv (.ptr 3 0)) [] ([callsH ro ls, .rows ro2 1 (ws.map rowU), .rows ro3 2 (ms.map rowMove)] ++ machS 3 z v)) :
    Does Tryd.prog 35 [cv (.slc 0 0 n c nn), cv (.func f []), cv (.slc 1 0 nc c2 nn2), cv (.slc 2 0 k c3 nn3)] [callsH ro ls, .rows ro2 1 (ws.map rowU), .rows ro3 2 (ms.map rowMove)] K := by
  subst hz
  refine Does.keep 3 rfl ?_
  refine does Tryd.func35 rfl (by decide) ?_
  refine SS.nil2 9 5 rfl ?_
  refine SS.loop (fun i : Nat => i ≤ n) (fun i => [(0, cv (.slc 0 0 n c nn)), (1, cv (.func f [])), (2, cv (.slc 1 0 nc c2 nn2)), (3, cv (.slc 2 0 k c3 nn3)), (9, cv (.slc 3 0 i none false)), (18, cv (.slc 0 0 n c nn)), (19, i64 n), (20, i64 i)])
    (fun i => [callsH ro ls, .rows ro2 1 (ws.map rowU), .rows ro3 2 (ms.map rowMove), .rows2 false 5 ((ps.take i).map fun p => p.map rowIns)]) (fun i => n - i) [3, 4, 5, 6]
    (At.mk' [0, 1, 2, 3, 9, 18, 19, 20] 0 (by simp) ⟨rfl, rfl⟩ rfl rfl (by simp) (by simp) (by simp)) ?_
  intro i hi
  change i ≤ n at hi
  refine S_r ?_
  refine brc_intro (fun hlt => ?_) (fun hlt => ?_)
  · have hlt : i < n := by
      have := of_decide_eq_true hlt
      have : (i : Int) < (n : Int) := this
      omega
    obtain ⟨l, hl⟩ : ∃ l, ls[i]? = some l := ⟨_, List.getElem?_eq_getElem (by omega)⟩
    obtain ⟨p, hp⟩ : ∃ p, ps[i]? = some p := ⟨_, List.getElem?_eq_getElem (by omega)⟩
    have hlm : (ls.map fun l => l.map rowCallZ)[0 + Int.toNat (i : Int)]? = some (l.map rowCallZ) := by simp [hl]
    have hll : (l.map rowCallZ).length = l.length := by simp
    have hrp := hr p (List.mem_of_getElem? hp)
    have hpl : p.length ≤ 600 := by
      simp only [rightZ, Bool.and_eq_true, decide_eq_true_eq] at hrp
      exact hrp.1.1.2.2
    refine SS.inlR ?_
    refine at2 (a := (0 : Int) ≤ (i : Int)) (b := (i : Int) < (n : Int)) (by omega) (by omega) ?_
    refine Exists.intro (l.map rowCallZ) (And.intro hlm ?_)
    change Does Tryd.prog f [i64 i, cv (.islc 0 (0 + Int.toNat (i : Int)) 0 (l.map rowCallZ).length none false)] _ _
    rw [hll, show 0 + Int.toNat (i : Int) = i from by simp]
    refine Does.on 4 [0] _ _ (hf i l p hl hp _ ?_)
    refine And.intro (by simp) (And.intro rfl (And.intro (by simp; omega) (at2 (by show (i + 1) * 24 ≤ _; omega) (by omega) ?_)))
    refine At.mk' [0, 1, 2, 3, 9, 18, 19, 20] (i + 1) ⟨hlt, by omega⟩ ⟨?_, rfl⟩ ?_ rfl (by simp) (by simp) (by decide)
    · rw [wrap_i64 (i + 1) (by omega) (by omega)]
      rfl
    · have e : (ps.take (i + 1)).map (fun p => p.map rowIns) = (ps.take i).map (fun p => p.map rowIns) ++ [p.map rowIns] := by
        rw [List.take_add_one, hp, List.map_append]
        rfl
      rw [e]
      rfl
  · have hlt : ¬ (i : Int) < (n : Int) := of_decide_eq_false hlt
    obtain rfl : n = i := by omega
    rw [show ps.take n = ps from List.take_of_length_le (by omega)]
    change Does Tryd.prog 75 _ _ _
    have w0 : WF (mz0 ps ws) := mz0_wf (by omega) (by omega) (by rw [hws]; exact hr) hwv
    refine Does.on 4 [3, 1] _ _ (coreNew (ps := ps) (ws := ws) (n := n) (nc := nc) hps hws hn hnc hr fun v hv => ?_)
    subst hps hws
    change Does Tryd.prog 76 _ _ _
    refine Does.on 13 [4, 5, 6, 7, 8, 9, 10, 11, 12] _ _ (coreThreads (m := mz0 ps ws) (v := v) ?_)
    refine brc_intro (fun h => ?_) (fun _ => ?_)
    · exact absurd (show ((ps.length : Int) != (ps.length : Int)) = true from h) (by simp)
    refine SS.loop (fun p : Nat × VZ => p.1 ≤ k ∧ okV p.2) (fun p => [(14, cv (.ptr 4 0)), (58, cv (.slc 2 0 k c3 nn3)), (59, i64 k), (60, i64 p.1)])
      (fun p => [callsH ro ls, .rows ro2 1 (ws.map rowU), .rows ro3 2 (ms.map rowMove), .rows2 false 5 (ps.map fun p => p.map rowIns)] ++ machS 4 (movesZ (mz0 ps ws) (ms.take p.1)) p.2) (fun p => k - p.1) [3, 4, 5, 6, 10, 11, 12]
      (At.mk' [14, 58, 59, 60] (0, v) ⟨by simp, hv⟩ ⟨rfl, rfl⟩ rfl rfl (by simp) (by simp) (by decide)) ?_
    rintro ⟨i, v1⟩ ⟨hik, hv1⟩
    change i ≤ k at hik
    change okV v1 at hv1
    refine S_r ?_
    refine brc_intro (fun hlt => ?_) (fun hlt => ?_)
    · have hlt : i < k := by
        have := of_decide_eq_true hlt
        have : (i : Int) < (k : Int) := this
        omega
      obtain ⟨x, hx⟩ : ∃ x, ms[i]? = some x := ⟨_, List.getElem?_eq_getElem (by omega)⟩
      have hw1 := w0.moves (ms.take i)
      have hnx := movesZ_take (mz0 ps ws) ms i x hx
      have hxm : (ms.map rowMove)[0 + Int.toNat (i : Int)]? = some (rowMove x) := by simp [hx]
      refine SS.inlR ?_
      refine at2 (a := (0 : Int) ≤ (i : Int)) (b := (i : Int) < (k : Int)) (by omega) (by omega) (rdA (rowMove x) hxm ?_)
      refine brc_intro (fun hp => ?_) (fun hp => ?_)
      · rw [moveZ, if_pos (show x.pk = true from hp)] at hnx
        change Does Tryd.prog 77 _ _ _
        refine Does.on 14 [4, 5, 6, 7, 8, 9, 10, 11, 12] _ _ (corePoke (m := movesZ (mz0 ps ws) (ms.take i)) (v := v1) hw1 hv1 x.th (fun v' hv' => ?_) fun e v' hv' => ?_)
        all_goals
          rw [← hnx]
          refine At.mk' [14, 58, 59, 60] (i + 1, v') ⟨⟨hlt, hv'⟩, by show k - (i + 1) < k - i; omega⟩ ⟨?_, rfl⟩ rfl rfl (by simp) (by simp) (by decide)
          rw [wrap_i64 (i + 1) (by omega) (by omega)]
          rfl
      · rw [moveZ, if_neg (show ¬ x.pk = true from fun h => by rw [show x.pk = false from hp] at h; cases h)] at hnx
        change Does Tryd.prog 54 _ _ _
        refine Does.on 14 [4, 5, 6, 7, 8, 9, 10, 11, 12] _ _ (coreStep (m := movesZ (mz0 ps ws) (ms.take i)) (v := v1) hw1 hv1 x.th (fun _ v' hv' => ?_) fun _ v' hv' => ?_)
        all_goals
          rw [← hnx]
          refine At.mk' [14, 58, 59, 60] (i + 1, v') ⟨⟨hlt, hv'⟩, by show k - (i + 1) < k - i; omega⟩ ⟨?_, rfl⟩ rfl rfl (by simp) (by simp) (by decide)
          rw [wrap_i64 (i + 1) (by omega) (by omega)]
          rfl
    · have hlt : ¬ (i : Int) < (k : Int) := of_decide_eq_false hlt
      obtain rfl : i = k := by omega
      rw [show ms.take i = ms from List.take_of_length_le (by omega)]
      exact ⟨13, [0, 1, 2, 4, 5, 6, 7, 8, 9, 10, 11, 12], _, _, rfl, rfl, by decide, by decide, rfl, rfl, rfl, rfl, rfl, h v1 hv1 (w0.moves ms)⟩

end
end Go.Mac
