/- Who is fair ends: the walk. -/
import Derived.Test.YtnhldphlkklfiaaGreatDoorQDanceFr
import Derived.Test.YtnhldphlkklfiaaGreatDoorQDanceAl
import Derived.Test.YtnhldphlkklfiaaGreatDoorQFairLaw
open Go Go.Proofs Go.Mac
set_option maxRecDepth 100000
namespace Go.Mac

/-- Whom a number stands for. -/
def nextX (t : Nat) (s : Int) (n : Nat) : Int :=
  Int.tmod (IntKind.i64.wrap ((t : Int) + IntKind.i64.wrap (IntKind.u64.wrap ((BitVec.ofInt IntKind.u64.bits (s.fdiv (2 ^ (min (Int.tmod (t : Int) 8).toNat IntKind.u64.bits))) &&& BitVec.ofInt IntKind.u64.bits 3).toNat)))) (n : Int)

theorem danceFair (k : Int) (_hk : -9223372036854775808 ≤ k ∧ k ≤ 9223372036854775807) (n : Int) (_hn : -9223372036854775808 ≤ n ∧ n ≤ 9223372036854775807) (R : Int) (_hR : -9223372036854775808 ≤ R ∧ R ≤ 9223372036854775807) (w' : Int) (_hw : -9223372036854775808 ≤ w' ∧ w' ≤ 9223372036854775807) (sd : Int) (_hsd : 0 ≤ sd ∧ sd < 18446744073709551616) :
    Does Tryz.prog 17 [i64 k, i64 n, i64 R, i64 w', u64 sd] [rtH] fun v _ _ => v = bl true := by
  refine does Tryz.func17 rfl (by decide) ?_
  change Does Tryz.prog 20 _ _ _
  refine Does.on 1 [0] _ _ (danced ?_)
  change Does Tryz.prog 47 _ _ _
  refine Does.alone 1 (kind k ?_)
  change Does Tryz.prog 22 _ _ _
  refine Does.alone 1 (pick n 5 (by decide) ?_)
  change Does Tryz.prog 22 _ _ _
  refine Does.alone 1 (pick R 3 (by decide) ?_)
  change Does Tryz.prog 22 _ _ _
  refine Does.alone 1 (pick w' 6 (by decide) ?_)
  obtain ⟨k, hk, hk6⟩ := pick6 k
  have g1 := pickZ_lt n (n := 5) (by decide)
  have g2 := pickZ_lt R (n := 3) (by decide)
  have g3 := pickZ_lt w' (n := 6) (by decide)
  rw [wrap_i64 (1 + pickZ n 5) (by omega) (by omega)]
  obtain ⟨n, hn, hn5⟩ : ∃ m : Nat, 1 + pickZ n 5 = (m : Int) ∧ 1 ≤ m ∧ m ≤ 5 := ⟨(1 + pickZ n 5).toNat, by omega, by omega, by omega⟩
  obtain ⟨R, hR, hR2⟩ : ∃ m : Nat, pickZ R 3 = (m : Int) ∧ m ≤ 2 := ⟨(pickZ R 3).toNat, by omega, by omega⟩
  rw [hk, hn, hR]
  obtain ⟨w, hw, hw10⟩ : ∃ m : Nat, (n : Int) + pickZ w' 6 = (m : Int) ∧ n ≤ m ∧ m ≤ 10 := ⟨((n : Int) + pickZ w' 6).toNat, by omega, by omega, by omega⟩
  have hn16 : 1 ≤ n ∧ n ≤ 16 := by omega
  have hS : sizeT k n n ≤ 300 := by
    have h1 := all_range size5 (t := k - 1) (by omega)
    have h2 := all_range h1 (t := n - 1) (by omega)
    rw [show k - 1 + 1 = k by omega, show n - 1 + 1 = n by omega] at h2
    exact of_decide_eq_true h2
  have hfair := fun (bs : List (List Int)) h hl => dance_fair (k := k) (n := n) (R := R) hk6 hn16 (by omega) (bs := bs) h hl
  change Does Tryz.prog 23 _ _ _
  rw [wrap_i64 ((n : Int) + pickZ w' 6) (by omega) (by omega), hw]
  refine Does.alone 1 (floor0 (k := k) (n := n) (R := R) (kindAll hk6 hn16 (by omega)) fun v hv hwf => ?_)
  change Does Tryz.prog 48 _ _ _
  refine Does.alone 10 (size (k := k) (n := n) (R := R) hk6 hn16 (by omega) ?_)
  generalize sizeT k n n = S at *
  have hm : 3 * S * (R + 1) ≤ 3 * 300 * 3 := Nat.mul_le_mul (by omega) (by omega)
  have e : IntKind.i64.wrap (IntKind.i64.wrap (3 * (S : Int)) * IntKind.i64.wrap ((R : Int) + 1)) = ((3 * S * (R + 1) : Nat) : Int) := by
    rw [wrap_i64 (3 * (S : Int)) (by omega) (by omega), wrap_i64 ((R : Int) + 1) (by omega) (by omega), show (3 * (S : Int)) * ((R : Int) + 1) = ((3 * S * (R + 1) : Nat) : Int) by push_cast; rfl, wrap_i64 _ (by omega) (by omega)]
  generalize 3 * S * (R + 1) = T at *
  obtain ⟨C, hC⟩ : ∃ C, (T + 1) * (w + n) = C := ⟨_, rfl⟩
  have hCb : C ≤ 2701 * 15 := by rw [← hC]; exact Nat.mul_le_mul (by omega) (by omega)
  have hCT : (T + 1) * (2 * n) ≤ C := by rw [← hC]; exact Nat.mul_le_mul_left _ (by omega)
  have e2 : IntKind.i64.wrap (IntKind.i64.wrap ((T : Int) + 1) * IntKind.i64.wrap ((w : Int) + (n : Int))) = (C : Int) := by
    rw [wrap_i64 ((T : Int) + 1) (by omega) (by omega), wrap_i64 ((w : Int) + (n : Int)) (by omega) (by omega), show ((T : Int) + 1) * ((w : Int) + (n : Int)) = ((T + 1 : Nat) : Int) * ((w + n : Nat) : Int) by push_cast; rfl, ← Int.natCast_mul, hC, wrap_i64 _ (by omega) (by omega)]
  refine SS.nil 13 1 (by decide) rfl ?_
  refine SS.loop (fun p : List (List Int) × Int => (∀ l ∈ p.1, isBl n l) ∧ p.1.flatten.length ≤ C + 2 * n) (fun p => [(0, i64 k), (1, i64 n), (2, i64 R), (3, i64 w), (4, u64 p.2), (11, cv (.ptr 1 0)), (12, i64 T), (13, cv (.slc 10 0 p.1.flatten.length none false))])
    (fun p => [rtH] ++ machS 1 (danceM k n R) v ++ [.rows false 1 (p.1.flatten.map rowZ)]) (fun p => C + 2 * n - p.1.flatten.length) [10]
    (At.mk' [0, 1, 2, 3, 4, 11, 12, 13] ([], sd) ⟨fun l h => (by cases h), by simp⟩ ⟨?_, rfl⟩ rfl rfl (by simp) (by simp) (by decide)) ?_
  · rw [e]
    rfl
  rintro ⟨bs, s0⟩ ⟨hbs, hbl⟩
  change ∀ l ∈ bs, isBl n l at hbs
  change bs.flatten.length ≤ C + 2 * n at hbl
  refine S_r ?_
  refine brc_intro (fun hlt => ?_) (fun hlt => ?_)
  · have hlt : bs.flatten.length < C := by
      have := of_decide_eq_true hlt
      have : (bs.flatten.length : Int) < IntKind.i64.wrap (IntKind.i64.wrap ((T : Int) + 1) * IntKind.i64.wrap ((w : Int) + (n : Int))) := this
      rw [e2] at this
      omega
    generalize hB : bs.flatten = B at *
    refine SS.loop (fun p : List Int × Int => p.1.length ≤ n) (fun p => [(0, i64 k), (1, i64 n), (2, i64 R), (3, i64 w), (4, u64 p.2), (11, cv (.ptr 1 0)), (12, i64 T), (13, cv (.slc 10 0 (B ++ p.1).length none false)), (54, i64 n), (55, i64 p.1.length)])
      (fun p => [rtH] ++ machS 1 (danceM k n R) v ++ [.rows false 1 ((B ++ p.1).map rowZ)]) (fun p => n - p.1.length) [10]
      (At.mk' [0, 1, 2, 3, 4, 11, 12, 13, 54, 55] ([], s0) (Nat.zero_le _) ⟨?_, rfl⟩ ?_ rfl (by simp) (by simp) (by decide)) ?_
    · rw [List.append_nil]
      rfl
    · rw [List.append_nil]
      rfl
    rintro ⟨r, s1⟩ hr
    change r.length ≤ n at hr
    refine S_r ?_
    refine brc_intro (fun hlt2 => ?_) (fun hlt2 => ?_)
    · have hlt2 : r.length < n := by
        have := of_decide_eq_true hlt2
        have : (r.length : Int) < (n : Int) := this
        omega
      refine SS.inlR ?_
      refine nonneg_intro (Int.tmod_nonneg 8 (show (0 : Int) ≤ (r.length : Int) by omega)) ?_
      refine nonzero_intro (show (n : Int) ≠ 0 by omega) ?_
      have hlen : (B ++ r).length = B.length + r.length := List.length_append
      refine And.intro (by simp) (Or.inl (And.intro rfl (And.intro (by simp) (And.intro (by show ((B ++ r).length + 1) * 8 ≤ _; omega) (And.intro (by show (B ++ r).length + 1 ≤ _; omega) ?_)))))
      have hrow : ((B ++ (r ++ [nextX r.length s1 n])).map rowZ) = (B ++ r).map rowZ ++ [rowZ (nextX r.length s1 n)] := by simp
      have hl2 : (B ++ (r ++ [nextX r.length s1 n])).length = (B ++ r).length + 1 := by simp; omega
      have hl3 : (r ++ [nextX r.length s1 n]).length = r.length + 1 := by simp
      refine brc_intro (fun _ => ?_) (fun _ => ?_)
      · refine At.mk' [0, 1, 2, 3, 4, 11, 12, 13, 54, 55] (r ++ [nextX r.length s1 n], IntKind.u64.wrap (IntKind.u64.wrap (s1 * 6364136223846793005) + 1442695040888963407)) ⟨by rw [hl3]; exact hlt2, by show n - _ < n - r.length; rw [hl3]; omega⟩ ⟨?_, rfl⟩ ?_ rfl (by simp) (by simp) (by decide)
        · rw [wrap_i64 ((r.length : Int) + 1) (by omega) (by omega)]
          show _ = [(0, i64 k), (1, i64 n), (2, i64 R), (3, i64 w), (4, u64 _), (11, cv (.ptr 1 0)), (12, i64 T), (13, cv (.slc 10 0 (B ++ (r ++ [nextX r.length s1 n])).length none false)), (54, i64 n), (55, i64 ((r ++ [nextX r.length s1 n]).length : Nat))]
          rw [hl2, hl3]
          rfl
        · show _ = [rtH] ++ machS 1 (danceM k n R) v ++ [PO.rows false 1 ((B ++ (r ++ [nextX r.length s1 n])).map rowZ)]
          rw [hrow]
          rfl
      · refine At.mk' [0, 1, 2, 3, 4, 11, 12, 13, 54, 55] (r ++ [nextX r.length s1 n], s1) ⟨by rw [hl3]; exact hlt2, by show n - _ < n - r.length; rw [hl3]; omega⟩ ⟨?_, rfl⟩ ?_ rfl (by simp) (by simp) (by decide)
        · rw [wrap_i64 ((r.length : Int) + 1) (by omega) (by omega)]
          show _ = [(0, i64 k), (1, i64 n), (2, i64 R), (3, i64 w), (4, u64 _), (11, cv (.ptr 1 0)), (12, i64 T), (13, cv (.slc 10 0 (B ++ (r ++ [nextX r.length s1 n])).length none false)), (54, i64 n), (55, i64 ((r ++ [nextX r.length s1 n]).length : Nat))]
          rw [hl2, hl3]
          rfl
        · show _ = [rtH] ++ machS 1 (danceM k n R) v ++ [PO.rows false 1 ((B ++ (r ++ [nextX r.length s1 n])).map rowZ)]
          rw [hrow]
          rfl
    · have hlt2 : ¬ r.length < n := by
        have := of_decide_eq_false hlt2
        have : ¬ (r.length : Int) < (n : Int) := this
        omega
      have hrn : r.length = n := by omega
      refine SS.loop (fun t : Nat => t ≤ n) (fun t => [(0, i64 k), (1, i64 n), (2, i64 R), (3, i64 w), (4, u64 s1), (11, cv (.ptr 1 0)), (12, i64 T), (13, cv (.slc 10 0 (B ++ (r ++ rangeI t)).length none false)), (79, i64 n), (80, i64 t)])
        (fun t => [rtH] ++ machS 1 (danceM k n R) v ++ [.rows false 1 ((B ++ (r ++ rangeI t)).map rowZ)]) (fun t => n - t) [10]
        (At.mk' [0, 1, 2, 3, 4, 11, 12, 13, 79, 80] 0 (Nat.zero_le _) ⟨?_, rfl⟩ ?_ rfl (by simp) (by simp) (by decide)) ?_
      · rw [show rangeI 0 = [] from rfl, List.append_nil]
        rfl
      · rw [show rangeI 0 = [] from rfl, List.append_nil]
        rfl
      intro t ht
      change t ≤ n at ht
      refine S_r ?_
      refine brc_intro (fun hlt3 => ?_) (fun hlt3 => ?_)
      · have hlt3 : t < n := by
          have := of_decide_eq_true hlt3
          have : (t : Int) < (n : Int) := this
          omega
        have hlen : (B ++ (r ++ rangeI t)).length = B.length + (r.length + t) := by rw [List.length_append, List.length_append, rangeI_len]
        refine And.intro (by simp) (Or.inl (And.intro rfl (And.intro (by simp) (And.intro (by show ((B ++ (r ++ rangeI t)).length + 1) * 8 ≤ _; omega) (And.intro (by show (B ++ (r ++ rangeI t)).length + 1 ≤ _; omega) ?_)))))
        have hrow : ((B ++ (r ++ rangeI (t + 1))).map rowZ) = (B ++ (r ++ rangeI t)).map rowZ ++ [rowZ (t : Int)] := by rw [rangeI_succ]; simp
        have hl2 : (B ++ (r ++ rangeI (t + 1))).length = (B ++ (r ++ rangeI t)).length + 1 := by rw [rangeI_succ]; simp; omega
        refine At.mk' [0, 1, 2, 3, 4, 11, 12, 13, 79, 80] (t + 1) ⟨hlt3, by omega⟩ ⟨?_, rfl⟩ ?_ rfl (by simp) (by simp) (by decide)
        · rw [wrap_i64 (t + 1) (by omega) (by omega), hl2]
          rfl
        · rw [hrow]
          rfl
      · have hlt3 : ¬ t < n := by
          have := of_decide_eq_false hlt3
          have : ¬ (t : Int) < (n : Int) := this
          omega
        obtain rfl : t = n := by omega
        have hb2 : (bs ++ [r ++ rangeI t]).flatten = B ++ (r ++ rangeI t) := by rw [List.flatten_append, hB]; simp
        have hbl2 : (B ++ (r ++ rangeI t)).length = B.length + 2 * t := by rw [List.length_append, List.length_append, rangeI_len, hrn]; omega
        refine At.mk' [0, 1, 2, 3, 4, 11, 12, 13] (bs ++ [r ++ rangeI t], s1) ⟨⟨fun l hl => ?_, ?_⟩, ?_⟩ ⟨?_, rfl⟩ ?_ rfl (by simp) (by simp) (by decide)
        · rcases List.mem_append.1 hl with hl | hl
          · exact hbs l hl
          · rw [List.mem_singleton.1 hl]
            exact ⟨r, rfl, hrn⟩
        · show (bs ++ [r ++ rangeI t]).flatten.length ≤ C + 2 * t
          rw [hb2, hbl2]
          omega
        · show C + 2 * t - (bs ++ [r ++ rangeI t]).flatten.length < C + 2 * t - B.length
          rw [hb2, hbl2]
          omega
        · show _ = [(0, i64 k), (1, i64 t), (2, i64 R), (3, i64 w), (4, u64 s1), (11, cv (.ptr 1 0)), (12, i64 T), (13, cv (.slc 10 0 (bs ++ [r ++ rangeI t]).flatten.length none false))]
          rw [hb2]
        · show _ = [rtH] ++ machS 1 (danceM k t R) v ++ [PO.rows false 1 ((bs ++ [r ++ rangeI t]).flatten.map rowZ)]
          rw [hb2]
          rfl
  · have hlt : C ≤ bs.flatten.length := by
      have := of_decide_eq_false hlt
      have : ¬ (bs.flatten.length : Int) < IntKind.i64.wrap (IntKind.i64.wrap ((T : Int) + 1) * IntKind.i64.wrap ((w : Int) + (n : Int))) := this
      rw [e2] at this
      omega
    have hfl := flat_len bs fun l hl => (hbs l hl).len
    have hbT : T + 1 ≤ bs.length := by
      refine Nat.le_of_mul_le_mul_right (c := 2 * n) ?_ (by omega)
      rw [Nat.mul_comm bs.length]
      omega
    obtain ⟨o1, o2⟩ := hfair bs hbs hbT
    have hF := blocks_fair (n := n) (w := ((w + 2 * n : Nat) : Int)) hn16 (by omega) hbs
    change Does Tryz.prog 49 _ _ _
    rw [wrap_i64 (2 * (n : Int)) (by omega) (by omega), wrap_i64 ((w : Int) + 2 * (n : Int)) (by omega) (by omega), show (w : Int) + 2 * (n : Int) = ((w + 2 * n : Nat) : Int) by omega]
    refine Does.on 11 [10] _ _ (fairIs (ro := false) (all := bs.flatten) (o := 0) (l := bs.flatten) n ((w + 2 * n : Nat) : Int) (fun i _ => by simp) (by omega) (by omega) fun b hb => ?_)
    rw [hb.2 hF]
    change Does Tryz.prog 50 _ _ _
    refine Does.on 11 [1, 2, 3, 4, 5, 6, 7, 8, 9, 10] _ _ (coreRun (m := danceM k n R) (v := v) (l := bs.flatten) (n := bs.flatten.length) (ro := false) hwf hv rfl (by omega) fun v' hv' => ?_)
    change Does Tryz.prog 51 _ _ _
    refine Does.on 11 [1, 2, 3, 4, 5, 6, 7, 8, 9] _ _ (coreEnds (m := (runM (danceM k n R) bs.flatten).2) (v := v') o2 ?_)
    rw [o1]
    exact fin rfl

end Go.Mac
