/- What comes of calls, acts and events is in order: LinOrder. -/
import Derived.Test.YtlimhldkkbaohaaDoorQLinZ
import Derived.Test.YtlimhldkkbaohaaDoorQPtsW
import Derived.Test.YtlimhldkkbaohaaDoorQGathered
import Derived.Test.YtlimhldkkbaohaaDoorQMapInc
open Go Go.Proofs Go.Mac
set_option maxRecDepth 100000
namespace Go.Mac
attribute [local irreducible] drawnR

theorem inc_of {acts : List ActZ} (h : ∀ (j : Nat) (a b : ActZ), acts[j]? = some a → acts[j + 1]? = some b → a.w < b.w) : Inc acts := by
  have key : ∀ (d j : Nat) (a b : ActZ), acts[j]? = some a → acts[j + 1 + d]? = some b → a.w < b.w := by
    intro d
    induction d with
    | zero => intro j a b ha hb; exact h j a b ha hb
    | succ d ih =>
      intro j a b ha hb
      have hl := (List.getElem?_eq_some_iff.1 hb).1
      have hc : acts[j + 1 + d]? = some acts[j + 1 + d] := List.getElem?_eq_getElem (by omega)
      have h1 := ih j a _ ha hc
      have h2 := h _ _ _ hc hb
      omega
  refine List.pairwise_iff_getElem.2 fun i j hi hj hij => ?_
  refine key (j - i - 1) i _ _ (List.getElem?_eq_getElem hi) ?_
  rw [show i + 1 + (j - i - 1) = j by omega]
  exact List.getElem?_eq_getElem hj

set_option maxHeartbeats 8000000 in
theorem linOrder (calls : List (List CallZ)) (hc : ∀ xs ∈ calls, xs.length ≤ 9223372036854775807) (acts : List ActZ) (el : List EvZ) :
    Does Tryd.prog 12 [cv (.slc 0 0 calls.length none false), cv (.slc 1 0 acts.length none false), cv (.slc 2 0 el.length none false)] [.rows2 true 2 (calls.map fun l => l.map rowCallZ), .rows true 6 (acts.map rowAct), .rows true 4 (el.map rowEv), rtH] fun v _ _ => v = bl true := by
  refine does Tryd.func12 rfl (by decide) ?_
  change Does Tryd.prog 16 _ _ _
  refine Does.alone 4 (gathered ?_)
  refine brc_intro (fun _ => rfl) (fun h1 => ?_)
  refine brc_intro (fun _ => rfl) (fun h2 => ?_)
  refine brc_intro (fun _ => rfl) (fun h3 => ?_)
  have h1 : calls.length ≤ 16 := by
    have := of_decide_eq_false h1
    omega
  have h2 : acts.length ≤ 200 := by
    have := of_decide_eq_false h2
    omega
  have h3 : el.length ≤ 100 := by
    have := of_decide_eq_false h3
    omega
  refine SS.loop (fun i : Nat => i ≤ acts.length ∧ ∀ (j : Nat) (a b : ActZ), j + 1 < i → acts[j]? = some a → acts[j + 1]? = some b → a.w < b.w)
    (fun i => [(0, cv (.slc 0 0 calls.length none false)), (1, cv (.slc 1 0 acts.length none false)), (2, cv (.slc 2 0 el.length none false)), (30, i64 acts.length), (31, i64 i)])
    (fun _ => [.rows2 true 2 (calls.map fun l => l.map rowCallZ), .rows true 6 (acts.map rowAct), .rows true 4 (el.map rowEv), rtH]) (fun i => acts.length - i) []
    (At.mk' [0, 1, 2, 30, 31] 0 ⟨Nat.zero_le _, fun j _ _ h => by omega⟩ ⟨rfl, rfl⟩ rfl rfl (by simp) (by simp) (by simp)) ?_
  rintro i ⟨hi, hinc⟩
  change i ≤ acts.length at hi
  refine S_r ?_
  refine brc_intro (fun hlt => ?_) (fun hlt => ?_)
  · have hlt : i < acts.length := by
      have := of_decide_eq_true hlt
      have : (i : Int) < (acts.length : Int) := this
      omega
    have wr : IntKind.i64.wrap ((i : Int) + 1) = ((i + 1 : Nat) : Int) := wrap_i64 _ (by omega) (by omega)
    obtain ⟨b, hb⟩ : ∃ b, acts[i]? = some b := ⟨_, List.getElem?_eq_getElem hlt⟩
    have rb : (acts.map rowAct)[0 + Int.toNat (i : Int)]? = some (rowAct b) := by rw [Int.toNat_natCast, Nat.zero_add, List.getElem?_map, hb]; rfl
    have ib : (0 : Int) ≤ (i : Int) ∧ (i : Int) < (acts.length : Int) := by omega
    refine SS.inlR ?_
    refine SS.drawR follows (by decide) ?_
    by_cases hi0 : i = 0
    · have dA : decide ((i : Int) > 0) = false := decide_eq_false (by omega)
      repeat' (first | refine draw_known (v := bl false) rfl (fun _ => rfl) (fun K' => congrArg (fun z => K' (bl z) [] _) dA) (fun _ => rfl) ?_ | refine draw_known rfl (fun _ => rfl) (fun _ => rfl) (fun _ => rfl) ?_ | refine draw_skip rfl (fun _ => rfl) (fun _ => rfl) ?_ | refine draw_end rfl rfl rfl ?_ | fail)
      refine At.mk' [0, 1, 2, 30, 31] (i + 1) ⟨⟨hlt, fun j _ _ h => by omega⟩, by show acts.length - (i + 1) < acts.length - i; omega⟩ ⟨?_, rfl⟩ rfl rfl (by simp) (by simp) (by simp)
      rw [wr]
    · have dA : decide ((i : Int) > 0) = true := decide_eq_true (by omega)
      obtain ⟨j, rfl⟩ : ∃ j, i = j + 1 := ⟨i - 1, by omega⟩
      have wm : IntKind.i64.wrap (((j + 1 : Nat) : Int) - 1) = (j : Int) := (wrap_i64 _ (by omega) (by omega)).trans (by omega)
      obtain ⟨a, ha⟩ : ∃ a, acts[j]? = some a := ⟨_, List.getElem?_eq_getElem (by omega)⟩
      have ra : (acts.map rowAct)[0 + Int.toNat (IntKind.i64.wrap (((j + 1 : Nat) : Int) - 1))]? = some (rowAct a) := by rw [wm, Int.toNat_natCast, Nat.zero_add, List.getElem?_map, ha]; rfl
      have ia : (0 : Int) ≤ IntKind.i64.wrap (((j + 1 : Nat) : Int) - 1) ∧ IntKind.i64.wrap (((j + 1 : Nat) : Int) - 1) < (acts.length : Int) := by rw [wm]; omega
      by_cases hle : b.w ≤ a.w
      · have dB : decide (b.w ≤ a.w) = true := decide_eq_true hle
        repeat' (first | refine draw_known (v := bl true) rfl (fun _ => rfl) (fun K' => congrArg (fun z => K' (bl z) [] _) dA) (fun _ => rfl) ?_ | refine draw_known (v := bl true) rfl (fun _ => rfl) (fun K' => congrArg (fun z => K' (bl z) [] _) dB) (fun _ => rfl) ?_ | refine draw_cond (v := cv (.rptr 1 (0 + Int.toNat (((j + 1 : Nat) : Int))) 0)) (C := (0 : Int) ≤ ((j + 1 : Nat) : Int) ∧ ((j + 1 : Nat) : Int) < (acts.length : Int)) rfl (fun _ => rfl) (by intro _ c k; exact ⟨c.1, c.2, k⟩) (by intro _; rfl) ib ?_ | refine draw_cond (v := cv (.rptr 1 (0 + Int.toNat (IntKind.i64.wrap (((j + 1 : Nat) : Int) - 1))) 0)) (C := (0 : Int) ≤ IntKind.i64.wrap (((j + 1 : Nat) : Int) - 1) ∧ IntKind.i64.wrap (((j + 1 : Nat) : Int) - 1) < (acts.length : Int)) rfl (fun _ => rfl) (by intro _ c k; exact ⟨c.1, c.2, k⟩) (by intro _; rfl) ia ?_ | refine draw_cond (v := i64 b.w) (C := _) rfl (fun _ => rfl) (by intro _ c k; exact ⟨rowAct b, _, c, rfl, k⟩) (by intro _; rfl) rb ?_ | refine draw_cond (v := i64 a.w) (C := _) rfl (fun _ => rfl) (by intro _ c k; exact ⟨rowAct a, _, c, rfl, k⟩) (by intro _; rfl) ra ?_ | refine draw_known rfl (fun _ => rfl) (fun _ => rfl) (fun _ => rfl) ?_ | refine draw_skip rfl (fun _ => rfl) (fun _ => rfl) ?_ | refine draw_end rfl rfl rfl ?_ | fail)
        rfl
      · have dB : decide (b.w ≤ a.w) = false := decide_eq_false hle
        repeat' (first | refine draw_known (v := bl true) rfl (fun _ => rfl) (fun K' => congrArg (fun z => K' (bl z) [] _) dA) (fun _ => rfl) ?_ | refine draw_known (v := bl false) rfl (fun _ => rfl) (fun K' => congrArg (fun z => K' (bl z) [] _) dB) (fun _ => rfl) ?_ | refine draw_cond (v := cv (.rptr 1 (0 + Int.toNat (((j + 1 : Nat) : Int))) 0)) (C := (0 : Int) ≤ ((j + 1 : Nat) : Int) ∧ ((j + 1 : Nat) : Int) < (acts.length : Int)) rfl (fun _ => rfl) (by intro _ c k; exact ⟨c.1, c.2, k⟩) (by intro _; rfl) ib ?_ | refine draw_cond (v := cv (.rptr 1 (0 + Int.toNat (IntKind.i64.wrap (((j + 1 : Nat) : Int) - 1))) 0)) (C := (0 : Int) ≤ IntKind.i64.wrap (((j + 1 : Nat) : Int) - 1) ∧ IntKind.i64.wrap (((j + 1 : Nat) : Int) - 1) < (acts.length : Int)) rfl (fun _ => rfl) (by intro _ c k; exact ⟨c.1, c.2, k⟩) (by intro _; rfl) ia ?_ | refine draw_cond (v := i64 b.w) (C := _) rfl (fun _ => rfl) (by intro _ c k; exact ⟨rowAct b, _, c, rfl, k⟩) (by intro _; rfl) rb ?_ | refine draw_cond (v := i64 a.w) (C := _) rfl (fun _ => rfl) (by intro _ c k; exact ⟨rowAct a, _, c, rfl, k⟩) (by intro _; rfl) ra ?_ | refine draw_known rfl (fun _ => rfl) (fun _ => rfl) (fun _ => rfl) ?_ | refine draw_skip rfl (fun _ => rfl) (fun _ => rfl) ?_ | refine draw_end rfl rfl rfl ?_ | fail)
        refine At.mk' [0, 1, 2, 30, 31] (j + 1 + 1) ⟨⟨hlt, fun k a' b' h ha' hb' => ?_⟩, by show acts.length - (j + 1 + 1) < acts.length - (j + 1); omega⟩ ⟨?_, rfl⟩ rfl rfl (by simp) (by simp) (by simp)
        · by_cases hk : k = j
          · subst hk
            rw [ha] at ha'
            rw [hb] at hb'
            obtain rfl := Option.some.inj ha'
            obtain rfl := Option.some.inj hb'
            omega
          · exact hinc k a' b' (by omega) ha' hb'
        · rw [wr]
  · have hlt : ¬ (i : Int) < (acts.length : Int) := of_decide_eq_false hlt
    have hI : Inc acts := inc_of fun j a b ha hb => hinc j a b (by have := (List.getElem?_eq_some_iff.1 hb).1; omega) ha hb
    clear hinc
    change Does Tryd.prog 51 _ _ _
    refine Does.on 4 [0, 1, 2] _ _ (linPoints (calls := calls) (acts := acts) (el := el) rfl h1 rfl (by omega) rfl (by omega) hc (fun _ e i => ?_) fun _ pts hS => ?_)
    · rfl
    · have hpl := allPts_len calls acts el
      rw [← hS.2.len] at hpl
      refine SS.loop (fun s : Nat × MapZ × Nat => s.1 ≤ pts.length ∧ MapW s.2.1 s.2.2 ∧ ∀ t k : Int, mpGet s.2.1 [t, k] = (cntK pts s.1 t k : Int))
        (fun s => [(0, cv (.slc 0 0 calls.length none false)), (8, cv (.slc 4 0 pts.length none false)), (10, cv (.map 5)), (64, cv (.slc 4 0 pts.length none false)), (65, i64 pts.length), (66, i64 s.1)])
        (fun s => [.rows2 true 2 (calls.map fun l => l.map rowCallZ), .rows true 6 (acts.map rowAct), .rows true 4 (el.map rowEv), rtH, .rows false 4 (pts.map rowPt), .mp 2 false s.2.1 s.2.2]) (fun s => pts.length - s.1) [5]
        (At.mk' [0, 8, 10, 64, 65, 66] (0, [], 0) ⟨Nat.zero_le _, MapW.nil, fun t k => rfl⟩ ⟨rfl, rfl⟩ rfl rfl (by simp) (by simp) (by simp)) ?_
      rintro ⟨i, es, clk⟩ ⟨hi, hmw, hes⟩
      dsimp only at hi hmw hes
      refine S_r ?_
      refine brc_intro (fun hlt => ?_) (fun _ => rfl)
      have hlt : i < pts.length := by
        have := of_decide_eq_true hlt
        have : (i : Int) < (pts.length : Int) := this
        omega
      obtain ⟨x, hx⟩ : ∃ x, pts[i]? = some x := ⟨_, List.getElem?_eq_getElem hlt⟩
      have hsucc := cntK_succ hx
      obtain ⟨t, k, lt, c, ht, hk, hct, hck, hcnt⟩ := ord_at hS hI hx
      have hsrt : ∀ y, pts[i - 1]? = some y → y.w ≤ x.w := fun y hy => hS.1.get (by omega) hy hx
      obtain ⟨w, xt, xk, lb⟩ := x
      dsimp only at ht hk hcnt hsrt
      subst ht hk
      have htn := (List.getElem?_eq_some_iff.1 hct).1
      have hkn := (List.getElem?_eq_some_iff.1 hck).1
      have hltm := hc lt (List.mem_of_getElem? hct)
      have wr : IntKind.i64.wrap ((i : Int) + 1) = ((i + 1 : Nat) : Int) := wrap_i64 _ (by omega) (by omega)
      have rx : (pts.map rowPt)[0 + Int.toNat (i : Int)]? = some (rowPt ⟨w, t, k, lb⟩) := by rw [Int.toNat_natCast, Nat.zero_add, List.getElem?_map, hx]; rfl
      have hcm : (calls.map fun l => l.map rowCallZ)[0 + Int.toNat (t : Int)]? = some (lt.map rowCallZ) := by rw [Int.toNat_natCast, Nat.zero_add, List.getElem?_map, hct]; rfl
      have hkm : (lt.map rowCallZ)[0 + Int.toNat (k : Int)]? = some (rowCallZ c) := by rw [Int.toNat_natCast, Nat.zero_add, List.getElem?_map, hck]; rfl
      have hlm : (lt.map rowCallZ).length = lt.length := List.length_map ..
      have it : (0 : Int) ≤ (t : Int) ∧ (t : Int) < (calls.length : Int) := by omega
      have hik : 0 + Int.toNat (t : Int) < (calls.map fun l => l.map rowCallZ).length ∧ (0 : Int) ≤ (k : Int) ∧ (k : Int) < ((lt.map rowCallZ).length : Int) := ⟨by rw [List.length_map, Int.toNat_natCast]; omega, by omega, by omega⟩
      have dC : decide ((t : Int) < 0) = false := decide_eq_false (by omega)
      have dD : decide ((t : Int) ≥ (calls.length : Int)) = false := decide_eq_false (by omega)
      have dE : decide ((k : Int) < 0) = false := decide_eq_false (by omega)
      have dF : decide ((k : Int) ≥ ((lt.map rowCallZ).length : Int)) = false := decide_eq_false (by omega)
      have hg := hes t k
      refine SS.inlR ?_
      refine at2 (a := (0 : Int) ≤ (i : Int)) (b := (i : Int) < (pts.length : Int)) (by omega) (by omega) (rdA (rowPt ⟨w, t, k, lb⟩) rx ?_)
      refine SS.drawR follows (by decide) ?_
      by_cases hi0 : i = 0
      · have dA : decide ((i : Int) > 0) = false := decide_eq_false (by omega)
        repeat' (first | refine draw_known (v := bl false) rfl (fun _ => rfl) (fun K' => congrArg (fun z => K' (bl z) [] _) dA) (fun _ => rfl) ?_ | refine draw_known (v := bl false) rfl (fun _ => rfl) (fun K' => congrArg (fun z => K' (bl z) [] _) dC) (fun _ => rfl) ?_ | refine draw_known (v := bl false) rfl (fun _ => rfl) (fun K' => congrArg (fun z => K' (bl z) [] _) dD) (fun _ => rfl) ?_ | refine draw_known (v := bl false) rfl (fun _ => rfl) (fun K' => congrArg (fun z => K' (bl z) [] _) dE) (fun _ => rfl) ?_ | refine draw_known (v := bl false) rfl (fun _ => rfl) (fun K' => congrArg (fun z => K' (bl z) [] _) dF) (fun _ => rfl) ?_ | refine draw_cond (v := cv (.rptr 0 (0 + Int.toNat (t : Int)) 0)) (C := (0 : Int) ≤ (t : Int) ∧ (t : Int) < (calls.length : Int)) rfl (fun _ => rfl) (by intro _ c k; exact ⟨c.1, c.2, k⟩) (by intro _; rfl) it ?_ | refine draw_cond (v := cv (.islc 0 (0 + Int.toNat (t : Int)) 0 (lt.map rowCallZ).length none false)) (C := _) rfl (fun _ => rfl) (by intro _ c k; exact ⟨(lt.map rowCallZ), c, k⟩) (by intro _; rfl) hcm ?_ | refine draw_known rfl (fun _ => rfl) (fun _ => rfl) (fun _ => rfl) ?_ | refine draw_skip rfl (fun _ => rfl) (fun _ => rfl) ?_ | refine draw_end rfl rfl rfl ?_ | fail)
        rcases hcnt with ⟨hcn, hl⟩ | ⟨hcn, hl, hw9⟩
        · rw [hcn] at hg
          subst hl
          have dG : ((mpGet es [(t : Int), (k : Int)] == 1) != false) = false := by rw [hg]; rfl
          have dH : decide (mpGet es [(t : Int), (k : Int)] > 1) = false := by rw [hg]; rfl
          refine SS.drawR follows (by decide) ?_
          repeat' (first | refine draw_known (v := bl false) rfl (fun _ => rfl) (fun K' => congrArg (fun z => K' (bl z) [] _) dG) (fun _ => rfl) ?_ | refine draw_known (v := bl false) rfl (fun _ => rfl) (fun K' => congrArg (fun z => K' (bl z) [] _) dH) (fun _ => rfl) ?_ | refine draw_cond (v := cv (.rptr 0 (0 + Int.toNat (t : Int)) 0)) (C := (0 : Int) ≤ (t : Int) ∧ (t : Int) < (calls.length : Int)) rfl (fun _ => rfl) (by intro _ c k; exact ⟨c.1, c.2, k⟩) (by intro _; rfl) it ?_ | refine draw_cond (v := cv (.islc 0 (0 + Int.toNat (t : Int)) 0 (lt.map rowCallZ).length none false)) (C := _) rfl (fun _ => rfl) (by intro _ c k; exact ⟨(lt.map rowCallZ), c, k⟩) (by intro _; rfl) hcm ?_ | refine draw_cond (v := cv (.iptr 0 (0 + Int.toNat (t : Int)) (0 + Int.toNat (k : Int)) 0)) (C := 0 + Int.toNat (t : Int) < (calls.map fun l => l.map rowCallZ).length ∧ (0 : Int) ≤ (k : Int) ∧ (k : Int) < ((lt.map rowCallZ).length : Int)) rfl (fun _ => rfl) (by intro _ c k; exact ⟨c.1, c.2.1, c.2.2, k⟩) (by intro _; rfl) hik ?_ | refine draw_cond (v := i64 c.w) (C := (calls.map fun l => l.map rowCallZ)[0 + Int.toNat (t : Int)]? = some (lt.map rowCallZ) ∧ (lt.map rowCallZ)[0 + Int.toNat (k : Int)]? = some (rowCallZ c)) rfl (fun _ => rfl) (by intro _ c2 k2; exact ⟨(lt.map rowCallZ), rowCallZ c, _, c2.1, c2.2, rfl, k2⟩) (by intro _; rfl) ⟨hcm, hkm⟩ ?_ | refine draw_known rfl (fun _ => rfl) (fun _ => rfl) (fun _ => rfl) ?_ | refine draw_skip rfl (fun _ => rfl) (fun _ => rfl) ?_ | refine draw_end rfl rfl rfl ?_ | fail)
          refine SS.drawR follows (by decide) ?_
          repeat' (first | refine draw_known rfl (fun _ => rfl) (fun _ => rfl) (fun _ => rfl) ?_ | refine draw_skip rfl (fun _ => rfl) (fun _ => rfl) ?_ | refine draw_end rfl rfl rfl ?_ | fail)
          refine draw_eff1 rfl rfl ?_
          refine eff_known (fun _ => rfl) (fun _ => rfl) (fun _ => rfl) ?_
          repeat' (first | refine And.intro rfl ?_ | refine And.intro (congrArg (fun z => AV.p (PV.c (CV.f (elmF false z)))) (mpGet_ent es [(t : Int), (k : Int)] _ clk)) ?_ | fail)
          change drawnR _ _ _ _ _ _ _ _ _ _
          repeat' (first | refine draw_known rfl (fun _ => rfl) (fun _ => rfl) (fun _ => rfl) ?_ | refine draw_skip rfl (fun _ => rfl) (fun _ => rfl) ?_ | refine draw_end rfl rfl rfl ?_ | fail)
          refine draw_eff1 rfl rfl ?_
          refine eff_run (fun _ => rfl) ?_
          refine Exists.intro (mpBorn es [(t : Int), (k : Int)] clk) (And.intro rfl (And.intro (hmw.inc [(t : Int), (k : Int)] 0).2.2 ?_))
          repeat' (first | refine And.intro rfl ?_ | fail)
          change drawnR _ _ _ _ _ _ _ _ _ _
          refine draw_end rfl rfl rfl ?_
          have wv : IntKind.i64.wrap (mpGet es [(t : Int), (k : Int)] + 1) = 1 := by rw [hg]; rfl
          obtain ⟨m1, m2, _⟩ := hmw.inc [(t : Int), (k : Int)] (IntKind.i64.wrap (mpGet es [(t : Int), (k : Int)] + 1))
          refine At.mk' [0, 8, 10, 64, 65, 66] (i + 1, mpAt (mpBorn es [(t : Int), (k : Int)] clk) (IntKind.i64.wrap (mpGet es [(t : Int), (k : Int)] + 1)) (mpEnt es [(t : Int), (k : Int)] clk), mpClk es [(t : Int), (k : Int)] clk) ⟨⟨hlt, m1, fun t' k' => ?_⟩, by show pts.length - (i + 1) < pts.length - (i); omega⟩ ⟨?_, rfl⟩ ?_ rfl (by simp) (by simp) (by decide)
          · dsimp only
            rw [m2, hsucc]
            by_cases hkk : t' = (t : Int) ∧ k' = (k : Int)
            · obtain ⟨rfl, rfl⟩ := hkk
              have hkx : keyB (t : Int) (k : Int) ⟨w, t, k, false⟩ = true := keyB_iff.2 ⟨rfl, rfl⟩
              rw [if_pos rfl, if_pos hkx, hcn, wv]
              rfl
            · rw [if_neg (by simpa using hkk), if_neg fun h => hkk ⟨(keyB_iff.1 h).1.symm, (keyB_iff.1 h).2.symm⟩]
              exact hes t' k'
          · rw [wr]
            first | done | rfl
          · rfl
        · rw [hcn] at hg
          subst hl
          have dG : ((mpGet es [(t : Int), (k : Int)] == 1) != true) = false := by rw [hg]; rfl
          have dH : decide (mpGet es [(t : Int), (k : Int)] > 1) = false := by rw [hg]; rfl
          have dI : (c.w != 9) = false := by simp [hw9]
          refine SS.drawR follows (by decide) ?_
          repeat' (first | refine draw_known (v := bl false) rfl (fun _ => rfl) (fun K' => congrArg (fun z => K' (bl z) [] _) dG) (fun _ => rfl) ?_ | refine draw_known (v := bl false) rfl (fun _ => rfl) (fun K' => congrArg (fun z => K' (bl z) [] _) dH) (fun _ => rfl) ?_ | refine draw_known (v := bl false) rfl (fun _ => rfl) (fun K' => congrArg (fun z => K' (bl z) [] _) dI) (fun _ => rfl) ?_ | refine draw_cond (v := cv (.rptr 0 (0 + Int.toNat (t : Int)) 0)) (C := (0 : Int) ≤ (t : Int) ∧ (t : Int) < (calls.length : Int)) rfl (fun _ => rfl) (by intro _ c k; exact ⟨c.1, c.2, k⟩) (by intro _; rfl) it ?_ | refine draw_cond (v := cv (.islc 0 (0 + Int.toNat (t : Int)) 0 (lt.map rowCallZ).length none false)) (C := _) rfl (fun _ => rfl) (by intro _ c k; exact ⟨(lt.map rowCallZ), c, k⟩) (by intro _; rfl) hcm ?_ | refine draw_cond (v := cv (.iptr 0 (0 + Int.toNat (t : Int)) (0 + Int.toNat (k : Int)) 0)) (C := 0 + Int.toNat (t : Int) < (calls.map fun l => l.map rowCallZ).length ∧ (0 : Int) ≤ (k : Int) ∧ (k : Int) < ((lt.map rowCallZ).length : Int)) rfl (fun _ => rfl) (by intro _ c k; exact ⟨c.1, c.2.1, c.2.2, k⟩) (by intro _; rfl) hik ?_ | refine draw_cond (v := i64 c.w) (C := (calls.map fun l => l.map rowCallZ)[0 + Int.toNat (t : Int)]? = some (lt.map rowCallZ) ∧ (lt.map rowCallZ)[0 + Int.toNat (k : Int)]? = some (rowCallZ c)) rfl (fun _ => rfl) (by intro _ c2 k2; exact ⟨(lt.map rowCallZ), rowCallZ c, _, c2.1, c2.2, rfl, k2⟩) (by intro _; rfl) ⟨hcm, hkm⟩ ?_ | refine draw_known rfl (fun _ => rfl) (fun _ => rfl) (fun _ => rfl) ?_ | refine draw_skip rfl (fun _ => rfl) (fun _ => rfl) ?_ | refine draw_end rfl rfl rfl ?_ | fail)
          refine SS.drawR follows (by decide) ?_
          repeat' (first | refine draw_known rfl (fun _ => rfl) (fun _ => rfl) (fun _ => rfl) ?_ | refine draw_skip rfl (fun _ => rfl) (fun _ => rfl) ?_ | refine draw_end rfl rfl rfl ?_ | fail)
          refine draw_eff1 rfl rfl ?_
          refine eff_known (fun _ => rfl) (fun _ => rfl) (fun _ => rfl) ?_
          repeat' (first | refine And.intro rfl ?_ | refine And.intro (congrArg (fun z => AV.p (PV.c (CV.f (elmF false z)))) (mpGet_ent es [(t : Int), (k : Int)] _ clk)) ?_ | fail)
          change drawnR _ _ _ _ _ _ _ _ _ _
          repeat' (first | refine draw_known rfl (fun _ => rfl) (fun _ => rfl) (fun _ => rfl) ?_ | refine draw_skip rfl (fun _ => rfl) (fun _ => rfl) ?_ | refine draw_end rfl rfl rfl ?_ | fail)
          refine draw_eff1 rfl rfl ?_
          refine eff_run (fun _ => rfl) ?_
          refine Exists.intro (mpBorn es [(t : Int), (k : Int)] clk) (And.intro rfl (And.intro (hmw.inc [(t : Int), (k : Int)] 0).2.2 ?_))
          repeat' (first | refine And.intro rfl ?_ | fail)
          change drawnR _ _ _ _ _ _ _ _ _ _
          refine draw_end rfl rfl rfl ?_
          have wv : IntKind.i64.wrap (mpGet es [(t : Int), (k : Int)] + 1) = 2 := by rw [hg]; rfl
          obtain ⟨m1, m2, _⟩ := hmw.inc [(t : Int), (k : Int)] (IntKind.i64.wrap (mpGet es [(t : Int), (k : Int)] + 1))
          refine At.mk' [0, 8, 10, 64, 65, 66] (i + 1, mpAt (mpBorn es [(t : Int), (k : Int)] clk) (IntKind.i64.wrap (mpGet es [(t : Int), (k : Int)] + 1)) (mpEnt es [(t : Int), (k : Int)] clk), mpClk es [(t : Int), (k : Int)] clk) ⟨⟨hlt, m1, fun t' k' => ?_⟩, by show pts.length - (i + 1) < pts.length - (i); omega⟩ ⟨?_, rfl⟩ ?_ rfl (by simp) (by simp) (by decide)
          · dsimp only
            rw [m2, hsucc]
            by_cases hkk : t' = (t : Int) ∧ k' = (k : Int)
            · obtain ⟨rfl, rfl⟩ := hkk
              have hkx : keyB (t : Int) (k : Int) ⟨w, t, k, true⟩ = true := keyB_iff.2 ⟨rfl, rfl⟩
              rw [if_pos rfl, if_pos hkx, hcn, wv]
              rfl
            · rw [if_neg (by simpa using hkk), if_neg fun h => hkk ⟨(keyB_iff.1 h).1.symm, (keyB_iff.1 h).2.symm⟩]
              exact hes t' k'
          · rw [wr]
            first | done | rfl
          · rfl
      · have dA : decide ((i : Int) > 0) = true := decide_eq_true (by omega)
        obtain ⟨j, rfl⟩ : ∃ j, i = j + 1 := ⟨i - 1, by omega⟩
        have wm : IntKind.i64.wrap (((j + 1 : Nat) : Int) - 1) = (j : Int) := (wrap_i64 _ (by omega) (by omega)).trans (by omega)
        obtain ⟨y, hy⟩ : ∃ y, pts[j]? = some y := ⟨_, List.getElem?_eq_getElem (by omega)⟩
        have ra : (pts.map rowPt)[0 + Int.toNat (IntKind.i64.wrap (((j + 1 : Nat) : Int) - 1))]? = some (rowPt y) := by rw [wm, Int.toNat_natCast, Nat.zero_add, List.getElem?_map, hy]; rfl
        have ia : (0 : Int) ≤ IntKind.i64.wrap (((j + 1 : Nat) : Int) - 1) ∧ IntKind.i64.wrap (((j + 1 : Nat) : Int) - 1) < (pts.length : Int) := by rw [wm]; omega
        have dB : decide (w < y.w) = false := decide_eq_false (by have := hsrt y hy; omega)
        repeat' (first | refine draw_known (v := bl true) rfl (fun _ => rfl) (fun K' => congrArg (fun z => K' (bl z) [] _) dA) (fun _ => rfl) ?_ | refine draw_known (v := bl false) rfl (fun _ => rfl) (fun K' => congrArg (fun z => K' (bl z) [] _) dB) (fun _ => rfl) ?_ | refine draw_cond (v := cv (.rptr 4 (0 + Int.toNat (IntKind.i64.wrap (((j + 1 : Nat) : Int) - 1))) 0)) (C := (0 : Int) ≤ IntKind.i64.wrap (((j + 1 : Nat) : Int) - 1) ∧ IntKind.i64.wrap (((j + 1 : Nat) : Int) - 1) < (pts.length : Int)) rfl (fun _ => rfl) (by intro _ c k; exact ⟨c.1, c.2, k⟩) (by intro _; rfl) ia ?_ | refine draw_cond (v := i64 y.w) (C := _) rfl (fun _ => rfl) (by intro _ c k; exact ⟨rowPt y, _, c, rfl, k⟩) (by intro _; rfl) ra ?_ | refine draw_known (v := bl false) rfl (fun _ => rfl) (fun K' => congrArg (fun z => K' (bl z) [] _) dC) (fun _ => rfl) ?_ | refine draw_known (v := bl false) rfl (fun _ => rfl) (fun K' => congrArg (fun z => K' (bl z) [] _) dD) (fun _ => rfl) ?_ | refine draw_known (v := bl false) rfl (fun _ => rfl) (fun K' => congrArg (fun z => K' (bl z) [] _) dE) (fun _ => rfl) ?_ | refine draw_known (v := bl false) rfl (fun _ => rfl) (fun K' => congrArg (fun z => K' (bl z) [] _) dF) (fun _ => rfl) ?_ | refine draw_cond (v := cv (.rptr 0 (0 + Int.toNat (t : Int)) 0)) (C := (0 : Int) ≤ (t : Int) ∧ (t : Int) < (calls.length : Int)) rfl (fun _ => rfl) (by intro _ c k; exact ⟨c.1, c.2, k⟩) (by intro _; rfl) it ?_ | refine draw_cond (v := cv (.islc 0 (0 + Int.toNat (t : Int)) 0 (lt.map rowCallZ).length none false)) (C := _) rfl (fun _ => rfl) (by intro _ c k; exact ⟨(lt.map rowCallZ), c, k⟩) (by intro _; rfl) hcm ?_ | refine draw_known rfl (fun _ => rfl) (fun _ => rfl) (fun _ => rfl) ?_ | refine draw_skip rfl (fun _ => rfl) (fun _ => rfl) ?_ | refine draw_end rfl rfl rfl ?_ | fail)
        rcases hcnt with ⟨hcn, hl⟩ | ⟨hcn, hl, hw9⟩
        · rw [hcn] at hg
          subst hl
          have dG : ((mpGet es [(t : Int), (k : Int)] == 1) != false) = false := by rw [hg]; rfl
          have dH : decide (mpGet es [(t : Int), (k : Int)] > 1) = false := by rw [hg]; rfl
          refine SS.drawR follows (by decide) ?_
          repeat' (first | refine draw_known (v := bl false) rfl (fun _ => rfl) (fun K' => congrArg (fun z => K' (bl z) [] _) dG) (fun _ => rfl) ?_ | refine draw_known (v := bl false) rfl (fun _ => rfl) (fun K' => congrArg (fun z => K' (bl z) [] _) dH) (fun _ => rfl) ?_ | refine draw_cond (v := cv (.rptr 0 (0 + Int.toNat (t : Int)) 0)) (C := (0 : Int) ≤ (t : Int) ∧ (t : Int) < (calls.length : Int)) rfl (fun _ => rfl) (by intro _ c k; exact ⟨c.1, c.2, k⟩) (by intro _; rfl) it ?_ | refine draw_cond (v := cv (.islc 0 (0 + Int.toNat (t : Int)) 0 (lt.map rowCallZ).length none false)) (C := _) rfl (fun _ => rfl) (by intro _ c k; exact ⟨(lt.map rowCallZ), c, k⟩) (by intro _; rfl) hcm ?_ | refine draw_cond (v := cv (.iptr 0 (0 + Int.toNat (t : Int)) (0 + Int.toNat (k : Int)) 0)) (C := 0 + Int.toNat (t : Int) < (calls.map fun l => l.map rowCallZ).length ∧ (0 : Int) ≤ (k : Int) ∧ (k : Int) < ((lt.map rowCallZ).length : Int)) rfl (fun _ => rfl) (by intro _ c k; exact ⟨c.1, c.2.1, c.2.2, k⟩) (by intro _; rfl) hik ?_ | refine draw_cond (v := i64 c.w) (C := (calls.map fun l => l.map rowCallZ)[0 + Int.toNat (t : Int)]? = some (lt.map rowCallZ) ∧ (lt.map rowCallZ)[0 + Int.toNat (k : Int)]? = some (rowCallZ c)) rfl (fun _ => rfl) (by intro _ c2 k2; exact ⟨(lt.map rowCallZ), rowCallZ c, _, c2.1, c2.2, rfl, k2⟩) (by intro _; rfl) ⟨hcm, hkm⟩ ?_ | refine draw_known rfl (fun _ => rfl) (fun _ => rfl) (fun _ => rfl) ?_ | refine draw_skip rfl (fun _ => rfl) (fun _ => rfl) ?_ | refine draw_end rfl rfl rfl ?_ | fail)
          refine SS.drawR follows (by decide) ?_
          repeat' (first | refine draw_known rfl (fun _ => rfl) (fun _ => rfl) (fun _ => rfl) ?_ | refine draw_skip rfl (fun _ => rfl) (fun _ => rfl) ?_ | refine draw_end rfl rfl rfl ?_ | fail)
          refine draw_eff1 rfl rfl ?_
          refine eff_known (fun _ => rfl) (fun _ => rfl) (fun _ => rfl) ?_
          repeat' (first | refine And.intro rfl ?_ | refine And.intro (congrArg (fun z => AV.p (PV.c (CV.f (elmF false z)))) (mpGet_ent es [(t : Int), (k : Int)] _ clk)) ?_ | fail)
          change drawnR _ _ _ _ _ _ _ _ _ _
          repeat' (first | refine draw_known rfl (fun _ => rfl) (fun _ => rfl) (fun _ => rfl) ?_ | refine draw_skip rfl (fun _ => rfl) (fun _ => rfl) ?_ | refine draw_end rfl rfl rfl ?_ | fail)
          refine draw_eff1 rfl rfl ?_
          refine eff_run (fun _ => rfl) ?_
          refine Exists.intro (mpBorn es [(t : Int), (k : Int)] clk) (And.intro rfl (And.intro (hmw.inc [(t : Int), (k : Int)] 0).2.2 ?_))
          repeat' (first | refine And.intro rfl ?_ | fail)
          change drawnR _ _ _ _ _ _ _ _ _ _
          refine draw_end rfl rfl rfl ?_
          have wv : IntKind.i64.wrap (mpGet es [(t : Int), (k : Int)] + 1) = 1 := by rw [hg]; rfl
          obtain ⟨m1, m2, _⟩ := hmw.inc [(t : Int), (k : Int)] (IntKind.i64.wrap (mpGet es [(t : Int), (k : Int)] + 1))
          refine At.mk' [0, 8, 10, 64, 65, 66] (j + 1 + 1, mpAt (mpBorn es [(t : Int), (k : Int)] clk) (IntKind.i64.wrap (mpGet es [(t : Int), (k : Int)] + 1)) (mpEnt es [(t : Int), (k : Int)] clk), mpClk es [(t : Int), (k : Int)] clk) ⟨⟨hlt, m1, fun t' k' => ?_⟩, by show pts.length - (j + 1 + 1) < pts.length - (j + 1); omega⟩ ⟨?_, rfl⟩ ?_ rfl (by simp) (by simp) (by decide)
          · dsimp only
            rw [m2, hsucc]
            by_cases hkk : t' = (t : Int) ∧ k' = (k : Int)
            · obtain ⟨rfl, rfl⟩ := hkk
              have hkx : keyB (t : Int) (k : Int) ⟨w, t, k, false⟩ = true := keyB_iff.2 ⟨rfl, rfl⟩
              rw [if_pos rfl, if_pos hkx, hcn, wv]
              rfl
            · rw [if_neg (by simpa using hkk), if_neg fun h => hkk ⟨(keyB_iff.1 h).1.symm, (keyB_iff.1 h).2.symm⟩]
              exact hes t' k'
          · rw [wr]
            first | done | rfl
          · rfl
        · rw [hcn] at hg
          subst hl
          have dG : ((mpGet es [(t : Int), (k : Int)] == 1) != true) = false := by rw [hg]; rfl
          have dH : decide (mpGet es [(t : Int), (k : Int)] > 1) = false := by rw [hg]; rfl
          have dI : (c.w != 9) = false := by simp [hw9]
          refine SS.drawR follows (by decide) ?_
          repeat' (first | refine draw_known (v := bl false) rfl (fun _ => rfl) (fun K' => congrArg (fun z => K' (bl z) [] _) dG) (fun _ => rfl) ?_ | refine draw_known (v := bl false) rfl (fun _ => rfl) (fun K' => congrArg (fun z => K' (bl z) [] _) dH) (fun _ => rfl) ?_ | refine draw_known (v := bl false) rfl (fun _ => rfl) (fun K' => congrArg (fun z => K' (bl z) [] _) dI) (fun _ => rfl) ?_ | refine draw_cond (v := cv (.rptr 0 (0 + Int.toNat (t : Int)) 0)) (C := (0 : Int) ≤ (t : Int) ∧ (t : Int) < (calls.length : Int)) rfl (fun _ => rfl) (by intro _ c k; exact ⟨c.1, c.2, k⟩) (by intro _; rfl) it ?_ | refine draw_cond (v := cv (.islc 0 (0 + Int.toNat (t : Int)) 0 (lt.map rowCallZ).length none false)) (C := _) rfl (fun _ => rfl) (by intro _ c k; exact ⟨(lt.map rowCallZ), c, k⟩) (by intro _; rfl) hcm ?_ | refine draw_cond (v := cv (.iptr 0 (0 + Int.toNat (t : Int)) (0 + Int.toNat (k : Int)) 0)) (C := 0 + Int.toNat (t : Int) < (calls.map fun l => l.map rowCallZ).length ∧ (0 : Int) ≤ (k : Int) ∧ (k : Int) < ((lt.map rowCallZ).length : Int)) rfl (fun _ => rfl) (by intro _ c k; exact ⟨c.1, c.2.1, c.2.2, k⟩) (by intro _; rfl) hik ?_ | refine draw_cond (v := i64 c.w) (C := (calls.map fun l => l.map rowCallZ)[0 + Int.toNat (t : Int)]? = some (lt.map rowCallZ) ∧ (lt.map rowCallZ)[0 + Int.toNat (k : Int)]? = some (rowCallZ c)) rfl (fun _ => rfl) (by intro _ c2 k2; exact ⟨(lt.map rowCallZ), rowCallZ c, _, c2.1, c2.2, rfl, k2⟩) (by intro _; rfl) ⟨hcm, hkm⟩ ?_ | refine draw_known rfl (fun _ => rfl) (fun _ => rfl) (fun _ => rfl) ?_ | refine draw_skip rfl (fun _ => rfl) (fun _ => rfl) ?_ | refine draw_end rfl rfl rfl ?_ | fail)
          refine SS.drawR follows (by decide) ?_
          repeat' (first | refine draw_known rfl (fun _ => rfl) (fun _ => rfl) (fun _ => rfl) ?_ | refine draw_skip rfl (fun _ => rfl) (fun _ => rfl) ?_ | refine draw_end rfl rfl rfl ?_ | fail)
          refine draw_eff1 rfl rfl ?_
          refine eff_known (fun _ => rfl) (fun _ => rfl) (fun _ => rfl) ?_
          repeat' (first | refine And.intro rfl ?_ | refine And.intro (congrArg (fun z => AV.p (PV.c (CV.f (elmF false z)))) (mpGet_ent es [(t : Int), (k : Int)] _ clk)) ?_ | fail)
          change drawnR _ _ _ _ _ _ _ _ _ _
          repeat' (first | refine draw_known rfl (fun _ => rfl) (fun _ => rfl) (fun _ => rfl) ?_ | refine draw_skip rfl (fun _ => rfl) (fun _ => rfl) ?_ | refine draw_end rfl rfl rfl ?_ | fail)
          refine draw_eff1 rfl rfl ?_
          refine eff_run (fun _ => rfl) ?_
          refine Exists.intro (mpBorn es [(t : Int), (k : Int)] clk) (And.intro rfl (And.intro (hmw.inc [(t : Int), (k : Int)] 0).2.2 ?_))
          repeat' (first | refine And.intro rfl ?_ | fail)
          change drawnR _ _ _ _ _ _ _ _ _ _
          refine draw_end rfl rfl rfl ?_
          have wv : IntKind.i64.wrap (mpGet es [(t : Int), (k : Int)] + 1) = 2 := by rw [hg]; rfl
          obtain ⟨m1, m2, _⟩ := hmw.inc [(t : Int), (k : Int)] (IntKind.i64.wrap (mpGet es [(t : Int), (k : Int)] + 1))
          refine At.mk' [0, 8, 10, 64, 65, 66] (j + 1 + 1, mpAt (mpBorn es [(t : Int), (k : Int)] clk) (IntKind.i64.wrap (mpGet es [(t : Int), (k : Int)] + 1)) (mpEnt es [(t : Int), (k : Int)] clk), mpClk es [(t : Int), (k : Int)] clk) ⟨⟨hlt, m1, fun t' k' => ?_⟩, by show pts.length - (j + 1 + 1) < pts.length - (j + 1); omega⟩ ⟨?_, rfl⟩ ?_ rfl (by simp) (by simp) (by decide)
          · dsimp only
            rw [m2, hsucc]
            by_cases hkk : t' = (t : Int) ∧ k' = (k : Int)
            · obtain ⟨rfl, rfl⟩ := hkk
              have hkx : keyB (t : Int) (k : Int) ⟨w, t, k, true⟩ = true := keyB_iff.2 ⟨rfl, rfl⟩
              rw [if_pos rfl, if_pos hkx, hcn, wv]
              rfl
            · rw [if_neg (by simpa using hkk), if_neg fun h => hkk ⟨(keyB_iff.1 h).1.symm, (keyB_iff.1 h).2.symm⟩]
              exact hes t' k'
          · rw [wr]
            first | done | rfl
          · rfl

end Go.Mac
