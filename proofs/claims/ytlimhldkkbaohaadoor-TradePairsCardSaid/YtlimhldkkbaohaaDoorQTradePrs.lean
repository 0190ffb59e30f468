/- Two by two: TradePairs. -/
import Derived.Test.YtlimhldkkbaohaaDoorQTpL
import Derived.Test.YtlimhldkkbaohaaDoorQMapAll
open Go Go.Proofs Go.Mac
set_option maxRecDepth 100000
namespace Go.Mac

set_option maxHeartbeats 4000000 in
theorem tradePairs (l : List (List Int)) (_hw : ∀ xs ∈ l, ∀ x ∈ xs, -9223372036854775808 ≤ x ∧ x ≤ 9223372036854775807) (hl : l.length ≤ 9223372036854775807) (hm : ∀ xs ∈ l, xs.length ≤ 9223372036854775807) (ms : List MoveZ) (done : Bool) :
    Does Tryd.prog 10 [cv (.slc 0 0 l.length none false), cv (.slc 1 0 ms.length none false), bl done] [.rows2 true 1 (l.map fun xs => xs.map rowZ), .rows true 2 (ms.map rowMove), rtH] fun v _ _ => v = bl true := by
  refine does Tryd.func10 rfl (by decide) ?_
  change Does Tryd.prog 41 _ _ _
  refine Does.alone 3 (swapped ?_)
  refine brc_intro (fun _ => rfl) (fun h => ?_)
  have hms : ms.length ≤ 500 := by
    have := of_decide_eq_false h
    omega
  change Does Tryd.prog 42 _ _ _
  refine Does.on 3 [0] _ _ (trades (l := l) rfl hl hm ?_)
  obtain ⟨hn, hpl, hr, hpi, _⟩ := trades_made l ms
  have hfit := fun i x => trades_fit l (i := i) (x := x)
  obtain ⟨hW, hI⟩ := tp_moves l ms
  have hT : ∀ m, TpI (3440 + 8 * ms.length) (min l.length 8) (lsQ (trdsL l)) m → ∃ M, Told2 (min l.length 8) (tradesZ l) m.el M := fun m h => tp_told rfl hW h
  generalize tradesZ l = calls at hn hpi hfit hT ⊢
  generalize ((trdsL l).map fun l => catP (l.map trdB)) = ps at hpl hr hpi hI
  generalize lsQ (trdsL l) = lq at hI hW hT
  have hn8 : min l.length 8 ≤ 8 := by omega
  generalize min l.length 8 = n at hn hpl hn8 hI hW hT ⊢
  obtain ⟨z, hz⟩ : ∃ z, movesZ (mz0 ps slots0) ms = z := ⟨_, rfl⟩
  rw [hz] at hI
  refine And.intro (by decide) (And.intro (by decide) (And.intro (by decide) (And.intro (by decide) ?_)))
  change Does Tryd.prog 35 _ _ _
  refine Does.on 5 [3, 4, 1] _ _ (made (ls := calls) (ps := ps) (ws := slots0) (ms := ms) (f := 43) (n := n) (nc := 17) (ro := false) (ro2 := false) (ro3 := true) hn hpl rfl rfl (by omega) (by decide) (by omega) hr (by decide) (hz := hz) (fun i x p hx hp K' hK' => ?_) fun v hv hw => ?_)
  · obtain ⟨hi8, j, hj, rfl⟩ := hfit i x hx
    obtain rfl := hpi i _ p hx hp
    exact tradeCode' i (by omega) i _ hx (by rw [tradJ_len]; omega) (tradJ_fit hi8 hj) hK'
  clear hz hr hpi hfit
  refine brc_intro (fun _ => ?_) (fun _ => ?_)
  · change Does Tryd.prog 37 _ _ _
    refine Does.on 14 [5, 6, 7, 8, 9, 10, 11, 12, 13] _ _ (fairFinish (m := z) (v := v) hw hv fun v1 _ hv1 hw1 => ?_)
    have hI1 := hI.fin hW
    generalize finish z = z1 at hw1 hI1
    clear hw hI hv
    obtain ⟨M, hM⟩ := hT z1 hI1
    have hel : z1.el.length ≤ 20000 := Nat.le_trans hw1.el hw1.k
    change Does Tryd.prog 38 _ _ _
    refine Does.on 15 [5, 6, 7, 8, 9, 10, 11, 12, 13] _ _ (answers (m := z1) (v := v1) hw1 n (by omega) ?_)
    have hrow : ∀ t, t < n → ((ansL n z1.el).map fun l => l.map rowZ)[t]? = some ((ansT t z1.el).map rowZ) := fun t ht => by
      rw [List.getElem?_map, ansL, List.getElem?_map, List.getElem?_range ht]
      rfl
    have hrl : ((ansL n z1.el).map fun l => l.map rowZ).length = n := by simp [ansL]
    generalize ((ansL n z1.el).map fun l => l.map rowZ) = rss at hrow hrl ⊢
    refine SS.loop (fun p : Nat × MapZ × Nat => p.1 ≤ n ∧ MapP (fun x y => M x = some y) p.2.1 p.2.2) (fun p => [(7, cv (.slc 3 0 n none false)), (9, cv (.map 14)), (40, cv (.slc 15 0 n none true)), (41, i64 n), (42, i64 p.1)])
      (fun p => [.rows2 true 1 (l.map fun xs => xs.map rowZ), .rows true 2 (ms.map rowMove), rtH, callsH false calls, .rows false 1 (slots0.map rowU)] ++ machS 5 z1 v1 ++ [.mp 0 false p.2.1 p.2.2, .rows2 false 1 rss]) (fun p => n - p.1) [2, 11, 12, 13]
      (At.mk' [7, 9, 40, 41, 42] (0, [], 0) ⟨Nat.zero_le _, MapP.nil⟩ ⟨rfl, rfl⟩ rfl rfl (by simp) (by simp) (by decide)) ?_
    rintro ⟨t, es, clk⟩ ⟨ht, hes⟩
    change t ≤ n at ht
    dsimp only at hes
    refine S_r ?_
    refine brc_intro (fun hlt => ?_) (fun hlt => ?_)
    · have hlt : t < n := by
        have := of_decide_eq_true hlt
        have : (t : Int) < (n : Int) := this
        omega
      have wrt : IntKind.i64.wrap ((t : Int) + 1) = ((t + 1 : Nat) : Int) := wrap_i64 _ (by omega) (by omega)
      have hrt : rss[0 + Int.toNat (t : Int)]? = some ((ansT t z1.el).map rowZ) := by rw [Nat.zero_add, Int.toNat_natCast]; exact hrow t hlt
      obtain ⟨lt, hct, hal, hl6⟩ := hM.len t hlt
      have han := hM.an t
      refine at2 (a := (0 : Int) ≤ (t : Int)) (b := (t : Int) < (n : Int)) (by omega) (by omega) ?_
      refine Exists.intro ((ansT t z1.el).map rowZ) (And.intro hrt ?_)
      rw [List.length_map, show 0 + Int.toNat (t : Int) = t by simp]
      generalize hxx : ansT t z1.el = xx at hal han hrt ⊢
      generalize hq : xx.length = q at hal ⊢
      have hcm : (calls.map fun l => l.map rowCallZ)[0 + Int.toNat (t : Int)]? = some (lt.map rowCallZ) := by rw [Nat.zero_add, Int.toNat_natCast, List.getElem?_map, hct]; rfl
      have rt : t < rss.length := by omega
      have hrt0 : rss[t]? = some (xx.map rowZ) := by rw [Nat.zero_add, Int.toNat_natCast] at hrt; exact hrt
      have h0t : (0 : Int) ≤ (t : Int) := by omega
      have htn : (t : Int) < (n : Int) := by omega
      refine SS.loop (fun p : Nat × MapZ × Nat => p.1 ≤ q ∧ MapP (fun x y => M x = some y) p.2.1 p.2.2) (fun p => [(7, cv (.slc 3 0 n none false)), (9, cv (.map 14)), (10, i64 t), (40, cv (.slc 15 0 n none true)), (41, i64 n), (42, i64 t), (47, cv (.islc 15 t 0 q none false)), (48, i64 q), (49, i64 p.1)])
        (fun p => [.rows2 true 1 (l.map fun xs => xs.map rowZ), .rows true 2 (ms.map rowMove), rtH, callsH false calls, .rows false 1 (slots0.map rowU)] ++ machS 5 z1 v1 ++ [.mp 0 false p.2.1 p.2.2, .rows2 false 1 rss]) (fun p => q - p.1) [2, 11, 12, 13]
        (At.mk' [7, 9, 10, 40, 41, 42, 47, 48, 49] (0, es, clk) ⟨Nat.zero_le _, hes⟩ ⟨rfl, rfl⟩ rfl rfl (by simp) (by simp) (by decide)) ?_
      clear hes
      rintro ⟨k, es, clk⟩ ⟨hk, hes⟩
      change k ≤ q at hk
      dsimp only at hes
      refine S_r ?_
      refine brc_intro (fun hlt2 => ?_) (fun hlt2 => ?_)
      · have hlt2 : k < q := by
          have := of_decide_eq_true hlt2
          have : (k : Int) < (q : Int) := this
          omega
        obtain ⟨y, hy⟩ : ∃ y, xx[k]? = some y := ⟨_, List.getElem?_eq_getElem (by omega)⟩
        have hMy := han k y hlt hy
        obtain ⟨hd1, _⟩ := hM.val _ _ hMy
        obtain ⟨_, s, i, xs, hs, hcs, hix, hi6, he⟩ := hM.val _ _ (hM.sym _ _ hMy)
        have e10 : IntKind.i64.wrap (Int.tdiv y 10) = (s : Int) := by rw [Int.tdiv_eq_ediv_of_nonneg (by omega), wrap_i64 _ (by omega) (by omega)]; omega
        have m10 : Int.tmod y 10 = (i : Int) := by rw [Int.tmod_eq_emod_of_nonneg (by omega)]; omega
        have hst : (s : Int) ≠ t := fun e => hd1 (by omega)
        have hcsm : (calls.map fun l => l.map rowCallZ)[0 + Int.toNat (s : Int)]? = some (xs.map rowCallZ) := by rw [Nat.zero_add, Int.toNat_natCast, List.getElem?_map, hcs]; rfl
        have wr : IntKind.i64.wrap ((k : Int) + 1) = ((k + 1 : Nat) : Int) := wrap_i64 _ (by omega) (by omega)
        have wk : IntKind.i64.wrap (IntKind.i64.wrap (10 * (t : Int)) + (k : Int)) = 10 * (t : Int) + k := by rw [wrap_i64 (10 * (t : Int)) (by omega) (by omega), wrap_i64 _ (by omega) (by omega)]
        have h0k : (0 : Int) ≤ (k : Int) := by omega
        have hkq : (k : Int) < (q : Int) := by omega
        have r0 : (xx.map rowZ)[0 + Int.toNat (k : Int)]? = some (rowZ y) := by rw [Nat.zero_add, Int.toNat_natCast, List.getElem?_map, hy]; rfl
        refine SS.inlR ?_
        refine And.intro rt (at2 h0k hkq ?_)
        refine Exists.intro (xx.map rowZ) (Exists.intro (rowZ y) (Exists.intro (.int .i64 y) (And.intro hrt0 (And.intro r0 (And.intro rfl ?_)))))
        refine at2 h0t htn ?_
        refine Exists.intro (lt.map rowCallZ) (And.intro hcm ?_)
        refine brc_intro (fun h => ?_) (fun _ => ?_)
        · exfalso
          have h := of_decide_eq_true h
          have h : (k : Int) ≥ ((lt.map rowCallZ).length : Int) := h
          rw [List.length_map] at h
          omega
        refine brc_intro (fun h => ?_) (fun _ => ?_)
        · exfalso
          have h := of_decide_eq_true h
          have h : y < 0 := h
          omega
        have hcsm' : (calls.map fun l => l.map rowCallZ)[0 + Int.toNat (IntKind.i64.wrap (Int.tdiv y 10))]? = some (xs.map rowCallZ) := by rw [e10]; exact hcsm
        refine brc_intro (fun h => ?_) (fun _ => ?_)
        · exfalso
          have h : (IntKind.i64.wrap (Int.tdiv y 10) == (t : Int)) = true := h
          rw [e10] at h
          exact hst (by simpa using h)
        refine brc_intro (fun h => ?_) (fun _ => ?_)
        · exfalso
          have h := of_decide_eq_true h
          have h : IntKind.i64.wrap (Int.tdiv y 10) ≥ (n : Int) := h
          omega
        refine at2 (a := (0 : Int) ≤ IntKind.i64.wrap (Int.tdiv y 10)) (b := IntKind.i64.wrap (Int.tdiv y 10) < (n : Int)) (by omega) (by omega) ?_
        refine Exists.intro (xs.map rowCallZ) (And.intro hcsm' ?_)
        refine brc_intro (fun h => ?_) (fun _ => ?_)
        · exfalso
          have h := of_decide_eq_true h
          have h : Int.tmod y 10 ≥ ((xs.map rowCallZ).length : Int) := h
          rw [List.length_map] at h
          omega
        refine At.mk' [7, 9, 10, 40, 41, 42, 47, 48, 49] (k + 1, mpPut es [10 * (t : Int) + k] y clk, mpClk es [10 * (t : Int) + k] clk) ⟨⟨hlt2, hes.put hMy⟩, by show q - (k + 1) < q - k; omega⟩ ⟨?_, rfl⟩ ?_ rfl (by simp) (by simp) (by decide)
        · rw [wr]
        · rw [wk]; rfl
      · have hlt2 : ¬ (k : Int) < (q : Int) := of_decide_eq_false hlt2
        obtain rfl : k = q := by omega
        refine At.mk' [7, 9, 40, 41, 42] (t + 1, es, clk) ⟨⟨hlt, hes⟩, by show n - (t + 1) < n - t; omega⟩ ⟨?_, rfl⟩ rfl rfl (by simp) (by simp) (by decide)
        rw [wrt]
    · have hlt : ¬ (t : Int) < (n : Int) := of_decide_eq_false hlt
      obtain rfl : t = n := by omega
      have hsym := hM.sym
      refine SS.loop (fun seen : List Nat => True) (fun _ => [(9, cv (.map 14)), (98, cv (.ptr 16 0))])
        (fun seen => [.rows2 true 1 (l.map fun xs => xs.map rowZ), .rows true 2 (ms.map rowMove), rtH, callsH false calls, .rows false 1 (slots0.map rowU)] ++ machS 5 z1 v1 ++ [.mp 0 false es clk, .rows2 false 1 rss, .it false 14 clk seen clk]) (fun seen => (leftE es seen).length) [2, 11, 12, 13]
        (At.mk' [9, 98] [] trivial ⟨rfl, rfl⟩ rfl rfl (by simp) (by simp) (by decide)) ?_
      intro seen _
      refine S_r ?_
      refine And.intro (fun e he => ⟨(hes e he).1, (hes e he).1⟩) (And.intro (fun _ => ?_) (fun e he => ?_))
      · exact rfl
      · obtain ⟨⟨e', hf, he'⟩, hdec⟩ := left_one he
        obtain ⟨_, x, hx, hMx⟩ := hes e' he'
        obtain ⟨ks, y, bn⟩ := e'
        dsimp only at hx hMx
        subst hx
        refine And.intro rfl (Exists.intro e.2.2 (Exists.intro ([x], y, bn) (And.intro (by simp) (And.intro hf ?_))))
        refine brc_intro (fun hh => ?_) (fun hh => ?_)
        · have e1 : M y = some (mpGet es [y]) := hes.get hh
          refine brc_intro (fun h => ?_) (fun _ => ?_)
          · exfalso
            have h : (mpGet es [y] != x) = true := h
            rw [hsym _ _ hMx] at e1
            rw [← Option.some.inj e1] at h
            simp at h
          refine SS.loop (fun _ : List Nat => True) (fun _ => [(9, cv (.map 14)), (14, i64 x), (15, i64 y), (98, cv (.ptr 16 0)), (117, cv (.ptr 17 0))])
            (fun s2 => [.rows2 true 1 (l.map fun xs => xs.map rowZ), .rows true 2 (ms.map rowMove), rtH, callsH false calls, .rows false 1 (slots0.map rowU)] ++ machS 5 z1 v1 ++ [.mp 0 false es clk, .rows2 false 1 rss, .it false 14 clk (seen ++ [e.2.2]) clk, .it false 14 clk s2 clk]) (fun s2 => (leftE es s2).length) [2, 11, 12, 13]
            (At.mk' [9, 14, 15, 98, 117] [] trivial ⟨rfl, rfl⟩ rfl rfl (by simp) (by simp) (by decide)) ?_
          intro s2 _
          refine S_r ?_
          refine And.intro (fun e he => ⟨(hes e he).1, (hes e he).1⟩) (And.intro (fun _ => ?_) (fun e2 he2 => ?_))
          · exact At.mk' [9, 98] (seen ++ [e.2.2]) ⟨trivial, hdec⟩ ⟨rfl, rfl⟩ rfl rfl (by simp) (by simp) (by decide)
          · obtain ⟨⟨e2', hf2, he2'⟩, hdec2⟩ := left_one he2
            obtain ⟨_, u, hu, hMu⟩ := hes e2' he2'
            obtain ⟨ks, w, bn2⟩ := e2'
            dsimp only at hu hMu
            subst hu
            refine And.intro rfl (Exists.intro e2.2.2 (Exists.intro ([u], w, bn2) (And.intro (by simp) (And.intro hf2 ?_))))
            refine brc_intro (fun h1 => ?_) (fun _ => ?_)
            · have h1 : u ≠ x := by
                have h1 : (u != x) = true := h1
                simpa using h1
              refine brc_intro (fun h2 => ?_) (fun _ => ?_)
              · exfalso
                have h2 : (w == y) = true := h2
                obtain rfl : w = y := by simpa using h2
                have a1 := hsym _ _ hMu
                rw [hsym _ _ hMx] at a1
                exact h1 (Option.some.inj a1).symm
              · exact At.mk' [9, 14, 15, 98, 117] (s2 ++ [e2.2.2]) ⟨trivial, hdec2⟩ ⟨rfl, rfl⟩ rfl rfl (by simp) (by simp) (by decide)
            · exact At.mk' [9, 14, 15, 98, 117] (s2 ++ [e2.2.2]) ⟨trivial, hdec2⟩ ⟨rfl, rfl⟩ rfl rfl (by simp) (by simp) (by decide)
        · skip
          refine SS.loop (fun _ : List Nat => True) (fun _ => [(9, cv (.map 14)), (14, i64 x), (15, i64 y), (98, cv (.ptr 16 0)), (117, cv (.ptr 17 0))])
            (fun s2 => [.rows2 true 1 (l.map fun xs => xs.map rowZ), .rows true 2 (ms.map rowMove), rtH, callsH false calls, .rows false 1 (slots0.map rowU)] ++ machS 5 z1 v1 ++ [.mp 0 false es clk, .rows2 false 1 rss, .it false 14 clk (seen ++ [e.2.2]) clk, .it false 14 clk s2 clk]) (fun s2 => (leftE es s2).length) [2, 11, 12, 13]
            (At.mk' [9, 14, 15, 98, 117] [] trivial ⟨rfl, rfl⟩ rfl rfl (by simp) (by simp) (by decide)) ?_
          intro s2 _
          refine S_r ?_
          refine And.intro (fun e he => ⟨(hes e he).1, (hes e he).1⟩) (And.intro (fun _ => ?_) (fun e2 he2 => ?_))
          · exact At.mk' [9, 98] (seen ++ [e.2.2]) ⟨trivial, hdec⟩ ⟨rfl, rfl⟩ rfl rfl (by simp) (by simp) (by decide)
          · obtain ⟨⟨e2', hf2, he2'⟩, hdec2⟩ := left_one he2
            obtain ⟨_, u, hu, hMu⟩ := hes e2' he2'
            obtain ⟨ks, w, bn2⟩ := e2'
            dsimp only at hu hMu
            subst hu
            refine And.intro rfl (Exists.intro e2.2.2 (Exists.intro ([u], w, bn2) (And.intro (by simp) (And.intro hf2 ?_))))
            refine brc_intro (fun h1 => ?_) (fun _ => ?_)
            · have h1 : u ≠ x := by
                have h1 : (u != x) = true := h1
                simpa using h1
              refine brc_intro (fun h2 => ?_) (fun _ => ?_)
              · exfalso
                have h2 : (w == y) = true := h2
                obtain rfl : w = y := by simpa using h2
                have a1 := hsym _ _ hMu
                rw [hsym _ _ hMx] at a1
                exact h1 (Option.some.inj a1).symm
              · exact At.mk' [9, 14, 15, 98, 117] (s2 ++ [e2.2.2]) ⟨trivial, hdec2⟩ ⟨rfl, rfl⟩ rfl rfl (by simp) (by simp) (by decide)
            · exact At.mk' [9, 14, 15, 98, 117] (s2 ++ [e2.2.2]) ⟨trivial, hdec2⟩ ⟨rfl, rfl⟩ rfl rfl (by simp) (by simp) (by decide)
  · obtain ⟨M, hM⟩ := hT z hI
    have hel : z.el.length ≤ 20000 := Nat.le_trans hw.el hw.k
    change Does Tryd.prog 38 _ _ _
    refine Does.on 15 [5, 6, 7, 8, 9, 10, 11, 12, 13] _ _ (answers (m := z) (v := v) hw n (by omega) ?_)
    have hrow : ∀ t, t < n → ((ansL n z.el).map fun l => l.map rowZ)[t]? = some ((ansT t z.el).map rowZ) := fun t ht => by
      rw [List.getElem?_map, ansL, List.getElem?_map, List.getElem?_range ht]
      rfl
    have hrl : ((ansL n z.el).map fun l => l.map rowZ).length = n := by simp [ansL]
    generalize ((ansL n z.el).map fun l => l.map rowZ) = rss at hrow hrl ⊢
    refine SS.loop (fun p : Nat × MapZ × Nat => p.1 ≤ n ∧ MapP (fun x y => M x = some y) p.2.1 p.2.2) (fun p => [(7, cv (.slc 3 0 n none false)), (9, cv (.map 14)), (40, cv (.slc 15 0 n none true)), (41, i64 n), (42, i64 p.1)])
      (fun p => [.rows2 true 1 (l.map fun xs => xs.map rowZ), .rows true 2 (ms.map rowMove), rtH, callsH false calls, .rows false 1 (slots0.map rowU)] ++ machS 5 z v ++ [.mp 0 false p.2.1 p.2.2, .rows2 false 1 rss]) (fun p => n - p.1) [2, 11, 12, 13]
      (At.mk' [7, 9, 40, 41, 42] (0, [], 0) ⟨Nat.zero_le _, MapP.nil⟩ ⟨rfl, rfl⟩ rfl rfl (by simp) (by simp) (by decide)) ?_
    rintro ⟨t, es, clk⟩ ⟨ht, hes⟩
    change t ≤ n at ht
    dsimp only at hes
    refine S_r ?_
    refine brc_intro (fun hlt => ?_) (fun hlt => ?_)
    · have hlt : t < n := by
        have := of_decide_eq_true hlt
        have : (t : Int) < (n : Int) := this
        omega
      have wrt : IntKind.i64.wrap ((t : Int) + 1) = ((t + 1 : Nat) : Int) := wrap_i64 _ (by omega) (by omega)
      have hrt : rss[0 + Int.toNat (t : Int)]? = some ((ansT t z.el).map rowZ) := by rw [Nat.zero_add, Int.toNat_natCast]; exact hrow t hlt
      obtain ⟨lt, hct, hal, hl6⟩ := hM.len t hlt
      have han := hM.an t
      refine at2 (a := (0 : Int) ≤ (t : Int)) (b := (t : Int) < (n : Int)) (by omega) (by omega) ?_
      refine Exists.intro ((ansT t z.el).map rowZ) (And.intro hrt ?_)
      rw [List.length_map, show 0 + Int.toNat (t : Int) = t by simp]
      generalize hxx : ansT t z.el = xx at hal han hrt ⊢
      generalize hq : xx.length = q at hal ⊢
      have hcm : (calls.map fun l => l.map rowCallZ)[0 + Int.toNat (t : Int)]? = some (lt.map rowCallZ) := by rw [Nat.zero_add, Int.toNat_natCast, List.getElem?_map, hct]; rfl
      have rt : t < rss.length := by omega
      have hrt0 : rss[t]? = some (xx.map rowZ) := by rw [Nat.zero_add, Int.toNat_natCast] at hrt; exact hrt
      have h0t : (0 : Int) ≤ (t : Int) := by omega
      have htn : (t : Int) < (n : Int) := by omega
      refine SS.loop (fun p : Nat × MapZ × Nat => p.1 ≤ q ∧ MapP (fun x y => M x = some y) p.2.1 p.2.2) (fun p => [(7, cv (.slc 3 0 n none false)), (9, cv (.map 14)), (10, i64 t), (40, cv (.slc 15 0 n none true)), (41, i64 n), (42, i64 t), (47, cv (.islc 15 t 0 q none false)), (48, i64 q), (49, i64 p.1)])
        (fun p => [.rows2 true 1 (l.map fun xs => xs.map rowZ), .rows true 2 (ms.map rowMove), rtH, callsH false calls, .rows false 1 (slots0.map rowU)] ++ machS 5 z v ++ [.mp 0 false p.2.1 p.2.2, .rows2 false 1 rss]) (fun p => q - p.1) [2, 11, 12, 13]
        (At.mk' [7, 9, 10, 40, 41, 42, 47, 48, 49] (0, es, clk) ⟨Nat.zero_le _, hes⟩ ⟨rfl, rfl⟩ rfl rfl (by simp) (by simp) (by decide)) ?_
      clear hes
      rintro ⟨k, es, clk⟩ ⟨hk, hes⟩
      change k ≤ q at hk
      dsimp only at hes
      refine S_r ?_
      refine brc_intro (fun hlt2 => ?_) (fun hlt2 => ?_)
      · have hlt2 : k < q := by
          have := of_decide_eq_true hlt2
          have : (k : Int) < (q : Int) := this
          omega
        obtain ⟨y, hy⟩ : ∃ y, xx[k]? = some y := ⟨_, List.getElem?_eq_getElem (by omega)⟩
        have hMy := han k y hlt hy
        obtain ⟨hd1, _⟩ := hM.val _ _ hMy
        obtain ⟨_, s, i, xs, hs, hcs, hix, hi6, he⟩ := hM.val _ _ (hM.sym _ _ hMy)
        have e10 : IntKind.i64.wrap (Int.tdiv y 10) = (s : Int) := by rw [Int.tdiv_eq_ediv_of_nonneg (by omega), wrap_i64 _ (by omega) (by omega)]; omega
        have m10 : Int.tmod y 10 = (i : Int) := by rw [Int.tmod_eq_emod_of_nonneg (by omega)]; omega
        have hst : (s : Int) ≠ t := fun e => hd1 (by omega)
        have hcsm : (calls.map fun l => l.map rowCallZ)[0 + Int.toNat (s : Int)]? = some (xs.map rowCallZ) := by rw [Nat.zero_add, Int.toNat_natCast, List.getElem?_map, hcs]; rfl
        have wr : IntKind.i64.wrap ((k : Int) + 1) = ((k + 1 : Nat) : Int) := wrap_i64 _ (by omega) (by omega)
        have wk : IntKind.i64.wrap (IntKind.i64.wrap (10 * (t : Int)) + (k : Int)) = 10 * (t : Int) + k := by rw [wrap_i64 (10 * (t : Int)) (by omega) (by omega), wrap_i64 _ (by omega) (by omega)]
        have h0k : (0 : Int) ≤ (k : Int) := by omega
        have hkq : (k : Int) < (q : Int) := by omega
        have r0 : (xx.map rowZ)[0 + Int.toNat (k : Int)]? = some (rowZ y) := by rw [Nat.zero_add, Int.toNat_natCast, List.getElem?_map, hy]; rfl
        refine SS.inlR ?_
        refine And.intro rt (at2 h0k hkq ?_)
        refine Exists.intro (xx.map rowZ) (Exists.intro (rowZ y) (Exists.intro (.int .i64 y) (And.intro hrt0 (And.intro r0 (And.intro rfl ?_)))))
        refine at2 h0t htn ?_
        refine Exists.intro (lt.map rowCallZ) (And.intro hcm ?_)
        refine brc_intro (fun h => ?_) (fun _ => ?_)
        · exfalso
          have h := of_decide_eq_true h
          have h : (k : Int) ≥ ((lt.map rowCallZ).length : Int) := h
          rw [List.length_map] at h
          omega
        refine brc_intro (fun h => ?_) (fun _ => ?_)
        · exfalso
          have h := of_decide_eq_true h
          have h : y < 0 := h
          omega
        have hcsm' : (calls.map fun l => l.map rowCallZ)[0 + Int.toNat (IntKind.i64.wrap (Int.tdiv y 10))]? = some (xs.map rowCallZ) := by rw [e10]; exact hcsm
        refine brc_intro (fun h => ?_) (fun _ => ?_)
        · exfalso
          have h : (IntKind.i64.wrap (Int.tdiv y 10) == (t : Int)) = true := h
          rw [e10] at h
          exact hst (by simpa using h)
        refine brc_intro (fun h => ?_) (fun _ => ?_)
        · exfalso
          have h := of_decide_eq_true h
          have h : IntKind.i64.wrap (Int.tdiv y 10) ≥ (n : Int) := h
          omega
        refine at2 (a := (0 : Int) ≤ IntKind.i64.wrap (Int.tdiv y 10)) (b := IntKind.i64.wrap (Int.tdiv y 10) < (n : Int)) (by omega) (by omega) ?_
        refine Exists.intro (xs.map rowCallZ) (And.intro hcsm' ?_)
        refine brc_intro (fun h => ?_) (fun _ => ?_)
        · exfalso
          have h := of_decide_eq_true h
          have h : Int.tmod y 10 ≥ ((xs.map rowCallZ).length : Int) := h
          rw [List.length_map] at h
          omega
        refine At.mk' [7, 9, 10, 40, 41, 42, 47, 48, 49] (k + 1, mpPut es [10 * (t : Int) + k] y clk, mpClk es [10 * (t : Int) + k] clk) ⟨⟨hlt2, hes.put hMy⟩, by show q - (k + 1) < q - k; omega⟩ ⟨?_, rfl⟩ ?_ rfl (by simp) (by simp) (by decide)
        · rw [wr]
        · rw [wk]; rfl
      · have hlt2 : ¬ (k : Int) < (q : Int) := of_decide_eq_false hlt2
        obtain rfl : k = q := by omega
        refine At.mk' [7, 9, 40, 41, 42] (t + 1, es, clk) ⟨⟨hlt, hes⟩, by show n - (t + 1) < n - t; omega⟩ ⟨?_, rfl⟩ rfl rfl (by simp) (by simp) (by decide)
        rw [wrt]
    · have hlt : ¬ (t : Int) < (n : Int) := of_decide_eq_false hlt
      obtain rfl : t = n := by omega
      have hsym := hM.sym
      refine SS.loop (fun seen : List Nat => True) (fun _ => [(9, cv (.map 14)), (98, cv (.ptr 16 0))])
        (fun seen => [.rows2 true 1 (l.map fun xs => xs.map rowZ), .rows true 2 (ms.map rowMove), rtH, callsH false calls, .rows false 1 (slots0.map rowU)] ++ machS 5 z v ++ [.mp 0 false es clk, .rows2 false 1 rss, .it false 14 clk seen clk]) (fun seen => (leftE es seen).length) [2, 11, 12, 13]
        (At.mk' [9, 98] [] trivial ⟨rfl, rfl⟩ rfl rfl (by simp) (by simp) (by decide)) ?_
      intro seen _
      refine S_r ?_
      refine And.intro (fun e he => ⟨(hes e he).1, (hes e he).1⟩) (And.intro (fun _ => ?_) (fun e he => ?_))
      · exact rfl
      · obtain ⟨⟨e', hf, he'⟩, hdec⟩ := left_one he
        obtain ⟨_, x, hx, hMx⟩ := hes e' he'
        obtain ⟨ks, y, bn⟩ := e'
        dsimp only at hx hMx
        subst hx
        refine And.intro rfl (Exists.intro e.2.2 (Exists.intro ([x], y, bn) (And.intro (by simp) (And.intro hf ?_))))
        refine brc_intro (fun hh => ?_) (fun hh => ?_)
        · have e1 : M y = some (mpGet es [y]) := hes.get hh
          refine brc_intro (fun h => ?_) (fun _ => ?_)
          · exfalso
            have h : (mpGet es [y] != x) = true := h
            rw [hsym _ _ hMx] at e1
            rw [← Option.some.inj e1] at h
            simp at h
          refine SS.loop (fun _ : List Nat => True) (fun _ => [(9, cv (.map 14)), (14, i64 x), (15, i64 y), (98, cv (.ptr 16 0)), (117, cv (.ptr 17 0))])
            (fun s2 => [.rows2 true 1 (l.map fun xs => xs.map rowZ), .rows true 2 (ms.map rowMove), rtH, callsH false calls, .rows false 1 (slots0.map rowU)] ++ machS 5 z v ++ [.mp 0 false es clk, .rows2 false 1 rss, .it false 14 clk (seen ++ [e.2.2]) clk, .it false 14 clk s2 clk]) (fun s2 => (leftE es s2).length) [2, 11, 12, 13]
            (At.mk' [9, 14, 15, 98, 117] [] trivial ⟨rfl, rfl⟩ rfl rfl (by simp) (by simp) (by decide)) ?_
          intro s2 _
          refine S_r ?_
          refine And.intro (fun e he => ⟨(hes e he).1, (hes e he).1⟩) (And.intro (fun _ => ?_) (fun e2 he2 => ?_))
          · exact At.mk' [9, 98] (seen ++ [e.2.2]) ⟨trivial, hdec⟩ ⟨rfl, rfl⟩ rfl rfl (by simp) (by simp) (by decide)
          · obtain ⟨⟨e2', hf2, he2'⟩, hdec2⟩ := left_one he2
            obtain ⟨_, u, hu, hMu⟩ := hes e2' he2'
            obtain ⟨ks, w, bn2⟩ := e2'
            dsimp only at hu hMu
            subst hu
            refine And.intro rfl (Exists.intro e2.2.2 (Exists.intro ([u], w, bn2) (And.intro (by simp) (And.intro hf2 ?_))))
            refine brc_intro (fun h1 => ?_) (fun _ => ?_)
            · have h1 : u ≠ x := by
                have h1 : (u != x) = true := h1
                simpa using h1
              refine brc_intro (fun h2 => ?_) (fun _ => ?_)
              · exfalso
                have h2 : (w == y) = true := h2
                obtain rfl : w = y := by simpa using h2
                have a1 := hsym _ _ hMu
                rw [hsym _ _ hMx] at a1
                exact h1 (Option.some.inj a1).symm
              · exact At.mk' [9, 14, 15, 98, 117] (s2 ++ [e2.2.2]) ⟨trivial, hdec2⟩ ⟨rfl, rfl⟩ rfl rfl (by simp) (by simp) (by decide)
            · exact At.mk' [9, 14, 15, 98, 117] (s2 ++ [e2.2.2]) ⟨trivial, hdec2⟩ ⟨rfl, rfl⟩ rfl rfl (by simp) (by simp) (by decide)
        · skip
          refine SS.loop (fun _ : List Nat => True) (fun _ => [(9, cv (.map 14)), (14, i64 x), (15, i64 y), (98, cv (.ptr 16 0)), (117, cv (.ptr 17 0))])
            (fun s2 => [.rows2 true 1 (l.map fun xs => xs.map rowZ), .rows true 2 (ms.map rowMove), rtH, callsH false calls, .rows false 1 (slots0.map rowU)] ++ machS 5 z v ++ [.mp 0 false es clk, .rows2 false 1 rss, .it false 14 clk (seen ++ [e.2.2]) clk, .it false 14 clk s2 clk]) (fun s2 => (leftE es s2).length) [2, 11, 12, 13]
            (At.mk' [9, 14, 15, 98, 117] [] trivial ⟨rfl, rfl⟩ rfl rfl (by simp) (by simp) (by decide)) ?_
          intro s2 _
          refine S_r ?_
          refine And.intro (fun e he => ⟨(hes e he).1, (hes e he).1⟩) (And.intro (fun _ => ?_) (fun e2 he2 => ?_))
          · exact At.mk' [9, 98] (seen ++ [e.2.2]) ⟨trivial, hdec⟩ ⟨rfl, rfl⟩ rfl rfl (by simp) (by simp) (by decide)
          · obtain ⟨⟨e2', hf2, he2'⟩, hdec2⟩ := left_one he2
            obtain ⟨_, u, hu, hMu⟩ := hes e2' he2'
            obtain ⟨ks, w, bn2⟩ := e2'
            dsimp only at hu hMu
            subst hu
            refine And.intro rfl (Exists.intro e2.2.2 (Exists.intro ([u], w, bn2) (And.intro (by simp) (And.intro hf2 ?_))))
            refine brc_intro (fun h1 => ?_) (fun _ => ?_)
            · have h1 : u ≠ x := by
                have h1 : (u != x) = true := h1
                simpa using h1
              refine brc_intro (fun h2 => ?_) (fun _ => ?_)
              · exfalso
                have h2 : (w == y) = true := h2
                obtain rfl : w = y := by simpa using h2
                have a1 := hsym _ _ hMu
                rw [hsym _ _ hMx] at a1
                exact h1 (Option.some.inj a1).symm
              · exact At.mk' [9, 14, 15, 98, 117] (s2 ++ [e2.2.2]) ⟨trivial, hdec2⟩ ⟨rfl, rfl⟩ rfl rfl (by simp) (by simp) (by decide)
            · exact At.mk' [9, 14, 15, 98, 117] (s2 ++ [e2.2.2]) ⟨trivial, hdec2⟩ ⟨rfl, rfl⟩ rfl rfl (by simp) (by simp) (by decide)

end Go.Mac
