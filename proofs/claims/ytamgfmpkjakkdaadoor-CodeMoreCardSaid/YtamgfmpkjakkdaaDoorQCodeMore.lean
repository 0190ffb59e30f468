/- A program that may be, may be on more cells, and with a halt behind it. -/
import Derived.Test.YtamgfmpkjakkdaaDoorQWritten
import Derived.Test.YtamgfmpkjakkdaaDoorGBase
open Go Go.Proofs Go.Mac
set_option maxRecDepth 100000
namespace Go.Mac

theorem fitsZ_mono {kind x c c' s s' : Int} (hc : c ≤ c') (hs : s ≤ s') (h : fitsZ kind x c s = true) : fitsZ kind x c' s' = true := by
  unfold fitsZ at h ⊢
  repeat' (split at h)
  all_goals simp_all
  all_goals omega

theorem okI_mono {c c' s s' : Int} (hc : c ≤ c') (hs : s ≤ s') {i : InsZ} (h : okI c s i = true) : okI c' s' i = true := by
  simp only [okI, Bool.and_eq_true] at h ⊢
  exact ⟨⟨⟨⟨h.1.1.1.1, fitsZ_mono hc hs h.1.1.1.2⟩, fitsZ_mono hc hs h.1.1.2⟩, fitsZ_mono hc hs h.1.2⟩, fitsZ_mono hc hs h.2⟩

theorem right_more {p : List InsZ} {c d : Int} (h : rightZ p c = true) (h0 : 0 ≤ d) (h1 : c + d ≤ 300) : rightZ p (c + d) = true := by
  simp only [rightZ, Bool.and_eq_true, decide_eq_true_eq, List.all_eq_true] at h ⊢
  exact ⟨⟨⟨by omega, h.1.1.2⟩, fun x hx => okI_mono (by omega) (Int.le_refl _) (h.1.2 x hx)⟩, h.2⟩

theorem right_halt {p : List InsZ} {c : Int} (h : rightZ p c = true) (hl : p.length < 600) : rightZ (p ++ [⟨0, 0, 0, 0, 0⟩]) c = true := by
  simp only [rightZ, Bool.and_eq_true, decide_eq_true_eq, List.all_eq_true] at h ⊢
  refine ⟨⟨⟨h.1.1.1, by simp; omega⟩, fun x hx => ?_⟩, ?_⟩
  · rcases List.mem_append.1 hx with hx | hx
    · exact okI_mono (Int.le_refl _) (by simp; omega) (h.1.2 x hx)
    · obtain rfl := List.mem_singleton.1 hx
      rfl
  · simp [lastOp]

section
variable {K : AV → List Nat → List PO → Prop}

theorem cloneIns {xs : List InsZ} {n : Nat} {ro : Bool} (hn : xs.length = n) (h0 : 0 < n) (hb : n ≤ 1000) (h : K (cv (.slc 1 0 n none true)) [] [.rows ro 5 (xs.map rowIns), .rows false 5 (xs.map rowIns)]) :
    Does Tryd.prog 10 [cv (.slc 0 0 n none false)] [.rows ro 5 (xs.map rowIns)] K := by
  refine Does.nil0 (fun h => absurd h (by omega)) ?_
  refine does Tryd.func10 rfl (by decide) ?_
  have e : List.take n (List.drop 0 (xs.map rowIns)) = xs.map rowIns := by rw [List.drop_zero, List.take_of_length_le]; simp; omega
  refine And.intro (by simp; omega) (Or.inl (And.intro rfl (And.intro (by simp) (And.intro ?_ (And.intro ?_ ?_)))))
  · rw [e, List.length_map, hn]
    show (0 + n) * 40 ≤ _
    omega
  · rw [e, List.length_map, hn]
    omega
  · rw [e]
    show K (cv (.slc 1 0 (0 + (xs.map rowIns).length) none true)) [] [.rows ro 5 (xs.map rowIns), .rows false 5 (xs.map rowIns)]
    rw [Nat.zero_add, List.length_map, hn]
    exact h

end

theorem codeMore (p : List InsZ) (_hl : p.length ≤ 9223372036854775807) (a : Int) (_ha : -9223372036854775808 ≤ a ∧ a ≤ 9223372036854775807) (b : Int) (_hb : -9223372036854775808 ≤ b ∧ b ≤ 9223372036854775807) :
    Does Tryd.prog 3 [cv (.slc 0 0 p.length none false), i64 a, i64 b] [.rows true 5 (p.map rowIns), powH] fun v _ _ => v = bl true := by
  refine does Tryd.func3 rfl (by decide) ?_
  change Does Tryd.prog 7 _ _ _
  refine Does.on 2 [1] _ _ (written ?_)
  refine brc_intro (fun _ => rfl) (fun h => ?_)
  have hl : p.length < 600 := by
    have := of_decide_eq_false h
    omega
  change Does Tryd.prog 8 _ _ _
  refine Does.on 2 [0] _ _ (right (p := p) a rfl (by omega) (fun hr => ?_) (fun _ e => rfl) fun _ e i => rfl)
  have hr' := hr
  simp only [rightZ, Bool.and_eq_true, decide_eq_true_eq] at hr'
  obtain ⟨⟨⟨ha, hp1⟩, _⟩, _⟩ := hr'
  obtain ⟨q, hq⟩ := Int.eq_ofNat_of_zero_le (show 0 ≤ 301 - a by omega)
  have w1 : IntKind.i64.wrap (IntKind.i64.wrap (300 - a) + 1) = (q : Int) := by
    rw [wrap_i64 (300 - a) (by omega) (by omega), wrap_i64 _ (by omega) (by omega)]
    omega
  change Does Tryd.prog 9 _ _ _
  rw [w1]
  refine Does.alone 2 (pick b q (by omega) ?_)
  have hpb := pickZ_lt b (n := q) (by omega)
  generalize pickZ b q = d at hpb
  change Does Tryd.prog 8 _ _ _
  rw [wrap_i64 (a + d) (by omega) (by omega)]
  refine Does.on 2 [0] _ _ (right (p := p) (a + d) rfl (by omega) (fun _ => ?_) (fun h e => absurd (right_more hr hpb.1 (by omega)) (by rw [h]; decide)) fun h e i => absurd (right_more hr hpb.1 (by omega)) (by rw [h]; decide))
  change Does Tryd.prog 10 _ _ _
  refine Does.on 2 [0] _ _ (cloneIns (xs := p) rfl (by omega) (by omega) ?_)
  refine And.intro (by simp) (Or.inl (And.intro rfl (And.intro (by simp) (And.intro (by show (p.length + 1) * 40 ≤ _; omega) (And.intro (by show p.length + 1 ≤ _; omega) ?_)))))
  have e : p.map rowIns ++ [rowIns ⟨0, 0, 0, 0, 0⟩] = (p ++ [(⟨0, 0, 0, 0, 0⟩ : InsZ)]).map rowIns := by rw [List.map_append]; rfl
  have hh := right_halt hr hl
  change Does Tryd.prog 8 [cv (.slc 2 0 (p.length + 1) none true), i64 a] [.rows true 5 (p.map rowIns), powH, .rows false 5 (p.map rowIns ++ [rowIns ⟨0, 0, 0, 0, 0⟩]), _] _
  rw [e]
  refine Does.on 4 [2] _ _ (right (p := p ++ [⟨0, 0, 0, 0, 0⟩]) (k := p.length + 1) a (by simp) (by omega) (fun _ => ?_) (fun h e => absurd hh (by rw [h]; decide)) fun h e i => absurd hh (by rw [h]; decide))
  exact rfl

end Go.Mac
