/- Texts that belong together; the first of them: Calls that take effect at points, one behind the other. -/
import Derived.Test.YtlimhldkkbaohaaDoorQPhaserG
import Derived.Test.YtlimhldkkbaohaaDoorQPoint
import Derived.Test.YtlimhldkkbaohaaDoorGMapA
import Derived.Test.YtlimhldkkbaohaaDoorQPackG
import Derived.Test.YtlimhldkkbaohaaDoorQDrawS

/- Calls that take effect at points, one behind the other. -/
section
open Go Go.Proofs Go.Mac
set_option maxRecDepth 100000
namespace Go.Mac

def rpCall (calls : List (List CallZ)) (x : PtZ) : Option CallZ := if 0 ≤ x.t ∧ 0 ≤ x.k then (calls[x.t.toNat]?).bind fun l => l[x.k.toNat]? else none
def rpAsk (c : CallZ) (late : Bool) (f : Int) : CallZ := if c.w = 9 then (if late = true then ⟨10, if f > 0 then f else 0⟩ else ⟨7, c.n⟩) else c
def rpOne (calls : List (List CallZ)) (p : Ph) (x : PtZ) (f : Int) : Option (Ph × Int) := (rpCall calls x).bind fun c => phDo p (rpAsk c x.l f).w (rpAsk c x.l f).n
def rpPut (f : List Int → Int) (k : List Int) (n : Int) : List Int → Int := fun k' => if k' = k then n else f k'

def rp (calls : List (List CallZ)) : List PtZ → Ph → (List Int → Int) → Option (Ph × List Int)
  | [], p, _ => some (p, [])
  | x :: xs, p, f => (rpOne calls p x (f [x.t, x.k])).bind fun q => (rp calls xs q.1 (rpPut f [x.t, x.k] q.2)).map fun r => (r.1, q.2 :: r.2)

theorem rp_append (calls : List (List CallZ)) : ∀ (a b : List PtZ) (p : Ph) (f : List Int → Int), ∃ g, rp calls (a ++ b) p f = (rp calls a p f).bind fun r => (rp calls b r.1 g).map fun s => (s.1, r.2 ++ s.2)
  | [], b, p, f => ⟨f, by rw [List.nil_append, rp]; cases h : rp calls b p f <;> simp [h]⟩
  | x :: a, b, p, f => by
    rw [List.cons_append, rp, rp]
    cases h : rpOne calls p x (f [x.t, x.k]) with
    | none => exact ⟨f, rfl⟩
    | some q =>
      obtain ⟨g, hg⟩ := rp_append calls a b q.1 (rpPut f [x.t, x.k] q.2)
      refine ⟨g, ?_⟩
      simp only [Option.bind_some]
      rw [hg]
      cases rp calls a q.1 (rpPut f [x.t, x.k] q.2) with
      | none => rfl
      | some r =>
        simp only [Option.bind_some, Option.map_some]
        cases rp calls b r.1 g <;> rfl

theorem rp_early (calls : List (List CallZ)) : ∀ (a : List PtZ) (p : Ph) (f g : List Int → Int), (∀ x ∈ a, x.l = false) → rp calls a p f = rp calls a p g
  | [], p, f, g, _ => rfl
  | x :: a, p, f, g, h => by
    have hx := h x (by simp)
    have e : rpOne calls p x (f [x.t, x.k]) = rpOne calls p x (g [x.t, x.k]) := by
      simp only [rpOne, rpAsk, hx]
      rfl
    rw [rp, rp, e]
    cases rpOne calls p x (g [x.t, x.k]) with
    | none => rfl
    | some q =>
      simp only [Option.bind_some]
      rw [rp_early calls a q.1 _ (rpPut g [x.t, x.k] q.2) (fun y hy => h y (by simp [hy]))]

theorem rp_len (calls : List (List CallZ)) : ∀ (a : List PtZ) (p : Ph) (f : List Int → Int) (r : Ph × List Int), rp calls a p f = some r → r.2.length = a.length
  | [], p, f, r, h => by obtain rfl := Option.some.inj h; rfl
  | x :: a, p, f, r, h => by
    rw [rp] at h
    cases hq : rpOne calls p x (f [x.t, x.k]) with
    | none => rw [hq] at h; cases h
    | some q =>
      rw [hq] at h
      simp only [Option.bind_some] at h
      cases hr : rp calls a q.1 (rpPut f [x.t, x.k] q.2) with
      | none => rw [hr] at h; cases h
      | some s =>
        rw [hr] at h
        obtain rfl := Option.some.inj h
        simp [rp_len calls a _ _ s hr]

/-- Points in two parts, the second of which has none that is late. -/
theorem rp_parts {calls : List (List CallZ)} {pts : List PtZ} {at0 : Nat} {p : Ph} {f : List Int → Int} (hl : ∀ x ∈ pts.drop at0, x.l = false) :
    (rp calls pts p f = none ↔ (rp calls (pts.take at0) p f = none ∨ ∃ r, rp calls (pts.take at0) p f = some r ∧ rp calls (pts.drop at0) r.1 f = none)) ∧
    ∀ r s, rp calls (pts.take at0) p f = some r → rp calls (pts.drop at0) r.1 f = some s → rp calls pts p f = some (s.1, r.2 ++ s.2) := by
  obtain ⟨g, hg⟩ := rp_append calls (pts.take at0) (pts.drop at0) p f
  rw [List.take_append_drop] at hg
  rw [hg]
  constructor
  · cases h1 : rp calls (pts.take at0) p f with
    | none => simp
    | some r =>
      simp only [Option.bind_some]
      rw [rp_early calls _ r.1 g f hl]
      cases h2 : rp calls (pts.drop at0) r.1 f <;> simp [h2]
  · intro r s h1 h2
    rw [h1]
    simp only [Option.bind_some]
    rw [rp_early calls _ r.1 g f hl, h2]
    rfl

end Go.Mac
end

/- packed.Of, beside the texts of gather. -/
section
open Go Go.Proofs Go.Mac
set_option maxRecDepth 100000
namespace Go.Mac

section
variable {K : AV → List Nat → List PO → Prop}

/-- The parts of a word. -/
def gO (w : Int) : Bool := decide (9223372036854775808 ≤ w)
def gPh (w : Int) : Int := w / 4294967296 % 2147483648
def gPa (w : Int) : Int := w / 65536 % 65536
def gWa (w : Int) : Int := w % 65536

theorem gPhEq (w : Int) (hw : 0 ≤ w ∧ w < 18446744073709551616) : IntKind.i64.wrap (IntKind.u64.wrap ↑(BitVec.ofInt IntKind.u64.bits (w.fdiv (2 ^ min (Int.toNat 32) IntKind.u64.bits)) &&& BitVec.ofInt IntKind.u64.bits 2147483647).toNat) = gPh w := by
  have e1 : (2 : Int) ^ min (Int.toNat 32) IntKind.u64.bits = 4294967296 := rfl
  have e3 : IntKind.u64.bits = 64 := rfl
  have e4 : w.fdiv 4294967296 = w / 4294967296 := Int.fdiv_eq_ediv_of_nonneg _ (by omega)
  rw [e1, e3, e4, and_z 31 _ 2147483647 (by omega) (by omega) (by omega) (by omega), wrap_u64 _ (by omega) (by omega), wrap_i64 _ (by omega) (by omega)]
  rfl

theorem gPaEq (w : Int) (hw : 0 ≤ w ∧ w < 18446744073709551616) : IntKind.i64.wrap (IntKind.u64.wrap ↑(BitVec.ofInt IntKind.u64.bits (w.fdiv (2 ^ min (Int.toNat 16) IntKind.u64.bits)) &&& BitVec.ofInt IntKind.u64.bits 65535).toNat) = gPa w := by
  have e1 : (2 : Int) ^ min (Int.toNat 16) IntKind.u64.bits = 65536 := rfl
  have e3 : IntKind.u64.bits = 64 := rfl
  have e4 : w.fdiv 65536 = w / 65536 := Int.fdiv_eq_ediv_of_nonneg _ (by omega)
  rw [e1, e3, e4, and_z 16 _ 65535 (by omega) (by omega) (by omega) (by omega), wrap_u64 _ (by omega) (by omega), wrap_i64 _ (by omega) (by omega)]
  rfl

theorem gWaEq (w : Int) (hw : 0 ≤ w ∧ w < 18446744073709551616) : IntKind.i64.wrap (IntKind.u64.wrap ↑(BitVec.ofInt IntKind.u64.bits w &&& BitVec.ofInt IntKind.u64.bits 65535).toNat) = gWa w := by
  have e3 : IntKind.u64.bits = 64 := rfl
  rw [e3, and_z 16 _ 65535 (by omega) (by omega) (by omega) (by omega), wrap_u64 _ (by omega) (by omega), wrap_i64 _ (by omega) (by omega)]
  rfl

theorem gOEq (w : Int) (hw : 0 ≤ w ∧ w < 18446744073709551616) : (w.fdiv (2 ^ min (Int.toNat 63) IntKind.u64.bits) == 1) = gO w := by
  have e1 : (2 : Int) ^ min (Int.toNat 63) IntKind.u64.bits = 9223372036854775808 := rfl
  have e4 : w.fdiv 9223372036854775808 = w / 9223372036854775808 := Int.fdiv_eq_ediv_of_nonneg _ (by omega)
  rw [e1, e4, Bool.eq_iff_iff]
  simp only [gO, decide_eq_true_eq, beq_iff_eq]
  omega

theorem gOfIs (w : Int) (hw : 0 ≤ w ∧ w < 18446744073709551616) (h0 : pkRightB (gPh w) (gPa w) (gWa w) = false → K (.tup [pkPhaseC false 0 0 0, pkErrC 3]) [] [])
    (h1 : pkRightB (gPh w) (gPa w) (gWa w) = true → K (.tup [pkPhaseC (gO w) (gPh w) (gPa w) (gWa w), pkOkC]) [] []) : Does Tryd.prog 58 [u64 w] [] K := by
  refine does Tryd.func58 rfl (by decide) ?_
  change Does Tryd.prog 79 _ _ _
  refine Does.alone 2 (pkRight _ _ _ _ ?_)
  rw [gPhEq w hw, gPaEq w hw, gWaEq w hw, gOEq w hw]
  refine brc_intro (fun h => ?_) (fun h => ?_)
  · exact h0 (by simpa using h)
  · exact h1 (by simpa using h)

end
end Go.Mac
end

/- lin.Replay: what comes of calls at points. -/
section
open Go Go.Proofs Go.Mac
set_option maxRecDepth 100000
namespace Go.Mac
attribute [local irreducible] drawnR

section
variable {K : AV → List Nat → List PO → Prop}

set_option maxHeartbeats 4000000 in
theorem replay {calls : List (List CallZ)} {pts all : List PtZ} {n k o : Nat} {ro1 ro2 nn1 nn2 : Bool} (p0 : Ph) (hn : calls.length = n) (hn16 : n ≤ 16) (hk : pts.length = k) (hk60 : k ≤ 100) (ho : ∀ i, i < k → all[o + i]? = pts[i]?) (hc : ∀ l ∈ calls, l.length ≤ 9223372036854775807)
    (h0 : rp calls pts p0 (fun _ => 0) = none → ∀ (e i : Int), K (.tup [pkPhaseC false 0 0 0, .c .nilslc, .c (.iface 117 (.ptr 2 0))]) [] [.rows2 ro1 2 (calls.map fun l => l.map rowCallZ), .rows ro2 4 (all.map rowPt), .one [.f (.int .i64 e), .f (.int .i64 i)]])
    (h1 : ∀ q outs, rp calls pts p0 (fun _ => 0) = some (q, outs) → K (.tup [q.c, .c (.slc 2 0 outs.length none false), .c .niliface]) [] [.rows2 ro1 2 (calls.map fun l => l.map rowCallZ), .rows ro2 4 (all.map rowPt), .rows false 1 (outs.map rowZ)]) :
    Does Tryd.prog 56 [.p p0.c, cv (.slc 0 0 n none nn1), cv (.slc 1 o k none nn2)] [.rows2 ro1 2 (calls.map fun l => l.map rowCallZ), .rows ro2 4 (all.map rowPt)] K := by
  refine Does.keep 2 rfl ?_
  refine does Tryd.func56 rfl (by decide) ?_
  refine SS.nil 10 1 (by decide) rfl ?_
  refine SS.loop (fun s : Nat × Ph × List Int × MapZ × Nat => s.1 ≤ k ∧ s.2.2.1.length = s.1 ∧ rp calls pts p0 (fun _ => 0) = (rp calls (pts.drop s.1) s.2.1 (mpGet s.2.2.2.1)).map fun r => (r.1, s.2.2.1 ++ r.2))
    (fun s => [(1, cv (.slc 0 0 n none nn1)), (3, cv (.ptr 2 0)), (6, cv (.ptr 3 0)), (9, cv (.map 4)), (10, cv (.slc 5 0 s.2.2.1.length none false)), (19, cv (.slc 1 o k none nn2)), (20, i64 k), (21, i64 s.1)])
    (fun s => [.rows2 ro1 2 (calls.map fun l => l.map rowCallZ), .rows ro2 4 (all.map rowPt), .one [.f (.bool s.2.1.o), .f (.int .i64 s.2.1.ph), .f (.int .i64 s.2.1.pa), .f (.int .i64 s.2.1.wa)], .one [.f (.bool false), .f (.int .i64 0), .f (.int .i64 0), .f (.int .i64 0)], .mp 2 false s.2.2.2.1 s.2.2.2.2, .rows false 1 (s.2.2.1.map rowZ)]) (fun s => k - s.1) [5]
    (At.mk' [1, 3, 6, 9, 10, 19, 20, 21] (0, p0, [], [], 0) ⟨Nat.zero_le _, rfl, by rw [List.drop_zero]; show _ = (rp calls pts p0 (fun _ => 0)).map _; cases rp calls pts p0 (fun _ => 0) <;> rfl⟩ ⟨rfl, rfl⟩ rfl rfl (by simp) (by simp) (by simp)) ?_
  rintro ⟨i, p, outs, es, clk⟩ ⟨hi, hol, hrun⟩
  dsimp only at hi hol hrun
  refine S_r ?_
  refine brc_intro (fun hlt => ?_) (fun hlt => ?_)
  · have hlt2 : i < k := by
      have := of_decide_eq_true hlt
      have : (i : Int) < (k : Int) := this
      omega
    obtain ⟨x, hx⟩ : ∃ x, pts[i]? = some x := ⟨_, List.getElem?_eq_getElem (by omega)⟩
    have hdr : pts.drop i = x :: pts.drop (i + 1) := by
      rw [List.drop_eq_getElem_cons (by omega)]
      congr 1
      exact (List.getElem?_eq_some_iff.1 hx).2
    rw [hdr, rp] at hrun
    have hxa : (all.map rowPt)[o + Int.toNat (i : Int)]? = some (rowPt x) := by rw [Int.toNat_natCast, List.getElem?_map, ho i hlt2, hx]; rfl
    refine SS.inlR ?_
    refine at2 (a := (0 : Int) ≤ (i : Int)) (b := (i : Int) < (k : Int)) (by omega) (by omega) (rdA (rowPt x) hxa ?_)
    refine SS.drawR follows (by decide) ?_
    have hnone : rpCall calls x = none → rp calls pts p0 (fun _ => 0) = none := fun h => by rw [hrun, rpOne, h]; rfl
    by_cases hA : x.t < 0
    · have dA : decide (x.t < 0) = true := decide_eq_true hA
      repeat' (first | refine draw_known (v := bl true) rfl (fun _ => rfl) (fun K' => congrArg (fun z => K' (bl z) [] _) dA) (fun _ => rfl) ?_ | refine draw_known rfl (fun _ => rfl) (fun _ => rfl) (fun _ => rfl) ?_ | refine draw_skip rfl (fun _ => rfl) (fun _ => rfl) ?_ | refine draw_end rfl rfl rfl ?_ | fail)
      exact ⟨8, [0, 1, 7], _, _, rfl, rfl, by decide, by decide, rfl, rfl, rfl, rfl, rfl, h0 (hnone (if_neg (by omega))) 2 i⟩
    have dA : decide (x.t < 0) = false := decide_eq_false hA
    by_cases hB : x.t ≥ (n : Int)
    · have dB : decide (x.t ≥ (n : Int)) = true := decide_eq_true hB
      repeat' (first | refine draw_known (v := bl false) rfl (fun _ => rfl) (fun K' => congrArg (fun z => K' (bl z) [] _) dA) (fun _ => rfl) ?_ | refine draw_known (v := bl true) rfl (fun _ => rfl) (fun K' => congrArg (fun z => K' (bl z) [] _) dB) (fun _ => rfl) ?_ | refine draw_known rfl (fun _ => rfl) (fun _ => rfl) (fun _ => rfl) ?_ | refine draw_skip rfl (fun _ => rfl) (fun _ => rfl) ?_ | refine draw_end rfl rfl rfl ?_ | fail)
      exact ⟨8, [0, 1, 7], _, _, rfl, rfl, by decide, by decide, rfl, rfl, rfl, rfl, rfl, h0 (hnone (by
        rw [rpCall, List.getElem?_eq_none_iff.2 (show calls.length ≤ x.t.toNat by omega)]
        split <;> rfl)) 2 i⟩
    have dB : decide (x.t ≥ (n : Int)) = false := decide_eq_false hB
    by_cases hC : x.k < 0
    · have dC : decide (x.k < 0) = true := decide_eq_true hC
      repeat' (first | refine draw_known (v := bl false) rfl (fun _ => rfl) (fun K' => congrArg (fun z => K' (bl z) [] _) dA) (fun _ => rfl) ?_ | refine draw_known (v := bl false) rfl (fun _ => rfl) (fun K' => congrArg (fun z => K' (bl z) [] _) dB) (fun _ => rfl) ?_ | refine draw_known (v := bl true) rfl (fun _ => rfl) (fun K' => congrArg (fun z => K' (bl z) [] _) dC) (fun _ => rfl) ?_ | refine draw_known rfl (fun _ => rfl) (fun _ => rfl) (fun _ => rfl) ?_ | refine draw_skip rfl (fun _ => rfl) (fun _ => rfl) ?_ | refine draw_end rfl rfl rfl ?_ | fail)
      exact ⟨8, [0, 1, 7], _, _, rfl, rfl, by decide, by decide, rfl, rfl, rfl, rfl, rfl, h0 (hnone (if_neg (by omega))) 2 i⟩
    have dC : decide (x.k < 0) = false := decide_eq_false hC
    obtain ⟨lt, hlt'⟩ : ∃ lt, calls[x.t.toNat]? = some lt := ⟨_, List.getElem?_eq_getElem (by omega)⟩
    have hix : (0 : Int) ≤ x.t ∧ x.t < (n : Int) := by omega
    have hcm : (calls.map fun l => l.map rowCallZ)[0 + Int.toNat x.t]? = some (lt.map rowCallZ) := by rw [Nat.zero_add, List.getElem?_map, hlt']; rfl
    have hlm : (lt.map rowCallZ).length = lt.length := List.length_map ..
    by_cases hD : x.k ≥ ((lt.map rowCallZ).length : Int)
    · have dD : decide (x.k ≥ ((lt.map rowCallZ).length : Int)) = true := decide_eq_true hD
      repeat' (first | refine draw_known (v := bl false) rfl (fun _ => rfl) (fun K' => congrArg (fun z => K' (bl z) [] _) dA) (fun _ => rfl) ?_ | refine draw_known (v := bl false) rfl (fun _ => rfl) (fun K' => congrArg (fun z => K' (bl z) [] _) dB) (fun _ => rfl) ?_ | refine draw_known (v := bl false) rfl (fun _ => rfl) (fun K' => congrArg (fun z => K' (bl z) [] _) dC) (fun _ => rfl) ?_ | refine draw_known (v := bl true) rfl (fun _ => rfl) (fun K' => congrArg (fun z => K' (bl z) [] _) dD) (fun _ => rfl) ?_ | refine draw_cond (v := cv (.rptr 0 (0 + Int.toNat x.t) 0)) (C := (0 : Int) ≤ x.t ∧ x.t < (n : Int)) rfl (fun _ => rfl) (by intro _ c k; exact ⟨c.1, c.2, k⟩) (by intro _; rfl) hix ?_ | refine draw_cond (v := cv (.islc 0 (0 + Int.toNat x.t) 0 (lt.map rowCallZ).length none false)) (C := (calls.map fun l => l.map rowCallZ)[0 + Int.toNat x.t]? = some (lt.map rowCallZ)) rfl (fun _ => rfl) (by intro _ c k; exact ⟨lt.map rowCallZ, c, k⟩) (by intro _; rfl) hcm ?_ | refine draw_known rfl (fun _ => rfl) (fun _ => rfl) (fun _ => rfl) ?_ | refine draw_skip rfl (fun _ => rfl) (fun _ => rfl) ?_ | refine draw_end rfl rfl rfl ?_ | fail)
      exact ⟨8, [0, 1, 7], _, _, rfl, rfl, by decide, by decide, rfl, rfl, rfl, rfl, rfl, h0 (hnone (by
        rw [rpCall, hlt', Option.bind_some, List.getElem?_eq_none_iff.2 (show lt.length ≤ x.k.toNat by omega)]
        split <;> rfl)) 2 i⟩
    have dD : decide (x.k ≥ ((lt.map rowCallZ).length : Int)) = false := decide_eq_false hD
    obtain ⟨c, hck⟩ : ∃ c, lt[x.k.toNat]? = some c := ⟨_, List.getElem?_eq_getElem (by omega)⟩
    have hcall : rpCall calls x = some c := by
      rw [rpCall, if_pos (by omega), hlt', Option.bind_some, hck]
    have hkm : (lt.map rowCallZ)[0 + Int.toNat x.k]? = some (rowCallZ c) := by rw [Nat.zero_add, List.getElem?_map, hck]; rfl
    repeat' (first | refine draw_known (v := bl false) rfl (fun _ => rfl) (fun K' => congrArg (fun z => K' (bl z) [] _) dA) (fun _ => rfl) ?_ | refine draw_known (v := bl false) rfl (fun _ => rfl) (fun K' => congrArg (fun z => K' (bl z) [] _) dB) (fun _ => rfl) ?_ | refine draw_known (v := bl false) rfl (fun _ => rfl) (fun K' => congrArg (fun z => K' (bl z) [] _) dC) (fun _ => rfl) ?_ | refine draw_known (v := bl false) rfl (fun _ => rfl) (fun K' => congrArg (fun z => K' (bl z) [] _) dD) (fun _ => rfl) ?_ | refine draw_cond (v := cv (.rptr 0 (0 + Int.toNat x.t) 0)) (C := (0 : Int) ≤ x.t ∧ x.t < (n : Int)) rfl (fun _ => rfl) (by intro _ c k; exact ⟨c.1, c.2, k⟩) (by intro _; rfl) hix ?_ | refine draw_cond (v := cv (.islc 0 (0 + Int.toNat x.t) 0 (lt.map rowCallZ).length none false)) (C := (calls.map fun l => l.map rowCallZ)[0 + Int.toNat x.t]? = some (lt.map rowCallZ)) rfl (fun _ => rfl) (by intro _ c k; exact ⟨lt.map rowCallZ, c, k⟩) (by intro _; rfl) hcm ?_ | refine draw_known rfl (fun _ => rfl) (fun _ => rfl) (fun _ => rfl) ?_ | refine draw_skip rfl (fun _ => rfl) (fun _ => rfl) ?_ | refine draw_end rfl rfl rfl ?_ | fail)
    refine SS.drawR follows (by decide) ?_
    have hik : 0 + Int.toNat x.t < (calls.map fun l => l.map rowCallZ).length ∧ (0 : Int) ≤ x.k ∧ x.k < ((lt.map rowCallZ).length : Int) := ⟨by rw [List.length_map]; omega, by omega, by omega⟩
    repeat' (first | refine draw_cond (v := cv (.iptr 0 (0 + Int.toNat x.t) (0 + Int.toNat x.k) 0)) (C := 0 + Int.toNat x.t < (calls.map fun l => l.map rowCallZ).length ∧ (0 : Int) ≤ x.k ∧ x.k < ((lt.map rowCallZ).length : Int)) rfl (fun _ => rfl) (by intro _ c k; exact ⟨c.1, c.2.1, c.2.2, k⟩) (by intro _; rfl) hik ?_ | refine draw_cond (v := .p (.agg [.f (.int .i64 c.w), .f (.int .i64 c.n)])) (C := (calls.map fun l => l.map rowCallZ)[0 + Int.toNat x.t]? = some (lt.map rowCallZ) ∧ (lt.map rowCallZ)[0 + Int.toNat x.k]? = some (rowCallZ c)) rfl (fun _ => rfl) (by intro _ c' k; exact ⟨lt.map rowCallZ, rowCallZ c, c'.1, c'.2, k⟩) (by intro _; rfl) ⟨hcm, hkm⟩ ?_ | refine draw_cond (v := cv (.rptr 0 (0 + Int.toNat x.t) 0)) (C := (0 : Int) ≤ x.t ∧ x.t < (n : Int)) rfl (fun _ => rfl) (by intro _ c k; exact ⟨c.1, c.2, k⟩) (by intro _; rfl) hix ?_ | refine draw_cond (v := cv (.islc 0 (0 + Int.toNat x.t) 0 (lt.map rowCallZ).length none false)) (C := (calls.map fun l => l.map rowCallZ)[0 + Int.toNat x.t]? = some (lt.map rowCallZ)) rfl (fun _ => rfl) (by intro _ c k; exact ⟨lt.map rowCallZ, c, k⟩) (by intro _; rfl) hcm ?_ | refine draw_known rfl (fun _ => rfl) (fun _ => rfl) (fun _ => rfl) ?_ | refine draw_skip rfl (fun _ => rfl) (fun _ => rfl) ?_ | refine draw_end rfl rfl rfl ?_ | fail)
    refine draw_eff1 rfl rfl ?_
    refine eff_known (fun _ => rfl) (fun _ => rfl) (fun _ => rfl) ?_
    repeat' (first | refine And.intro rfl ?_ | refine And.intro (And.intro hix.1 (And.intro hix.2 rfl)) ?_ | refine And.intro (And.intro hik.1 (And.intro hik.2.1 (And.intro hik.2.2 rfl))) ?_ | refine And.intro (Exists.intro _ (And.intro hcm rfl)) ?_ | refine And.intro (Exists.intro _ (Exists.intro _ (And.intro hcm (And.intro hkm rfl)))) ?_ | fail)
    change drawnR _ _ _ _ _ _ _ _ _ _
    refine draw_eff1 rfl rfl ?_
    refine eff_known (fun _ => rfl) (fun _ => rfl) (fun _ => rfl) ?_
    repeat' (first | refine And.intro rfl ?_ | refine And.intro (And.intro hix.1 (And.intro hix.2 rfl)) ?_ | refine And.intro (And.intro hik.1 (And.intro hik.2.1 (And.intro hik.2.2 rfl))) ?_ | refine And.intro (Exists.intro _ (And.intro hcm rfl)) ?_ | refine And.intro (Exists.intro _ (Exists.intro _ (And.intro hcm (And.intro hkm rfl)))) ?_ | fail)
    change drawnR _ _ _ _ _ _ _ _ _ _
    refine draw_end rfl rfl rfl ?_
    have hone : rpOne calls p x (mpGet es [x.t, x.k]) = phDo p (rpAsk c x.l (mpGet es [x.t, x.k])).w (rpAsk c x.l (mpGet es [x.t, x.k])).n := by rw [rpOne, hcall]; rfl
    refine brc_intro (fun h9 => ?_) (fun h9 => ?_)
    · have h9 : c.w = 9 := by simpa using h9
      rw [rpAsk, if_pos h9] at hone
      refine brc_intro (fun hl => ?_) (fun hl => ?_)
      · have hl : x.l = true := hl
        rw [if_pos hl] at hone
        change Does Tryd.prog 39 _ _ _
        refine Does.alone 9 (phaserDo p 10 (if mpGet es [x.t, x.k] > 0 then mpGet es [x.t, x.k] else 0) (fun hd => ?_) fun q m hd => ?_)
        · exact ⟨11, [0, 1, 10], _, _, rfl, rfl, by decide, by decide, rfl, rfl, rfl, rfl, rfl, h0 (by rw [hrun, hone, hd]; rfl) 1 i⟩
        · rw [hone, hd] at hrun
          refine SS.drawR follows (by decide) ?_
          repeat' (first | refine draw_known rfl (fun _ => rfl) (fun _ => rfl) (fun _ => rfl) ?_ | fail)
          refine draw_eff1 rfl rfl ?_
          refine eff_known (fun _ => rfl) (fun _ => rfl) (fun _ => rfl) ?_
          repeat' (first | refine And.intro rfl ?_ | fail)
          change drawnR _ _ _ _ _ _ _ _ _ _
          refine draw_eff1 rfl rfl ?_
          refine eff_known (fun _ => rfl) (fun _ => rfl) (fun _ => rfl) ?_
          repeat' (first | refine And.intro rfl ?_ | fail)
          change drawnR _ _ _ _ _ _ _ _ _ _
          refine draw_end rfl rfl rfl ?_
          refine And.intro (by simp) (Or.inl (And.intro rfl (And.intro (by simp) (And.intro (by show (outs.length + 1) * 8 ≤ _; omega) (And.intro (by show outs.length + 1 ≤ _; omega) ?_)))))
          refine At.mk' [1, 3, 6, 9, 10, 19, 20, 21] (i + 1, q, outs ++ [m], mpPut es [x.t, x.k] m clk, mpClk es [x.t, x.k] clk) ⟨⟨hlt2, by simp [hol], ?_⟩, by show k - (i + 1) < k - i; omega⟩ ⟨?_, rfl⟩ ?_ rfl (by simp) (by simp) (by decide)
          · dsimp only
            rw [hrun, show mpGet (mpPut es [x.t, x.k] m clk) = rpPut (mpGet es) [x.t, x.k] m from funext fun k' => mpGet_put ..]
            simp only [Option.bind_some]
            cases rp calls (pts.drop (i + 1)) q (rpPut (mpGet es) [x.t, x.k] m) with
            | none => rfl
            | some r => simp
          · rw [wrap_i64 (i + 1) (by omega) (by omega)]
            simp only [List.length_append, List.length_singleton]
            rfl
          · simp only [List.map_append, List.map_cons, List.map_nil]
            rfl
      · have hl : ¬ x.l = true := by
          have hl : x.l = false := hl
          rw [hl]; decide
        rw [if_neg hl] at hone
        change Does Tryd.prog 39 _ _ _
        refine Does.alone 9 (phaserDo p 7 c.n (fun hd => ?_) fun q m hd => ?_)
        · exact ⟨11, [0, 1, 10], _, _, rfl, rfl, by decide, by decide, rfl, rfl, rfl, rfl, rfl, h0 (by rw [hrun, hone, hd]; rfl) 1 i⟩
        · rw [hone, hd] at hrun
          refine SS.drawR follows (by decide) ?_
          repeat' (first | refine draw_known rfl (fun _ => rfl) (fun _ => rfl) (fun _ => rfl) ?_ | fail)
          refine draw_eff1 rfl rfl ?_
          refine eff_known (fun _ => rfl) (fun _ => rfl) (fun _ => rfl) ?_
          repeat' (first | refine And.intro rfl ?_ | fail)
          change drawnR _ _ _ _ _ _ _ _ _ _
          refine draw_eff1 rfl rfl ?_
          refine eff_known (fun _ => rfl) (fun _ => rfl) (fun _ => rfl) ?_
          repeat' (first | refine And.intro rfl ?_ | fail)
          change drawnR _ _ _ _ _ _ _ _ _ _
          refine draw_end rfl rfl rfl ?_
          refine And.intro (by simp) (Or.inl (And.intro rfl (And.intro (by simp) (And.intro (by show (outs.length + 1) * 8 ≤ _; omega) (And.intro (by show outs.length + 1 ≤ _; omega) ?_)))))
          refine At.mk' [1, 3, 6, 9, 10, 19, 20, 21] (i + 1, q, outs ++ [m], mpPut es [x.t, x.k] m clk, mpClk es [x.t, x.k] clk) ⟨⟨hlt2, by simp [hol], ?_⟩, by show k - (i + 1) < k - i; omega⟩ ⟨?_, rfl⟩ ?_ rfl (by simp) (by simp) (by decide)
          · dsimp only
            rw [hrun, show mpGet (mpPut es [x.t, x.k] m clk) = rpPut (mpGet es) [x.t, x.k] m from funext fun k' => mpGet_put ..]
            simp only [Option.bind_some]
            cases rp calls (pts.drop (i + 1)) q (rpPut (mpGet es) [x.t, x.k] m) with
            | none => rfl
            | some r => simp
          · rw [wrap_i64 (i + 1) (by omega) (by omega)]
            simp only [List.length_append, List.length_singleton]
            rfl
          · simp only [List.map_append, List.map_cons, List.map_nil]
            rfl
    · have h9 : ¬ c.w = 9 := by simpa using h9
      rw [rpAsk, if_neg h9] at hone
      change Does Tryd.prog 39 _ _ _
      refine Does.alone 9 (phaserDo p c.w c.n (fun hd => ?_) fun q m hd => ?_)
      · exact ⟨11, [0, 1, 10], _, _, rfl, rfl, by decide, by decide, rfl, rfl, rfl, rfl, rfl, h0 (by rw [hrun, hone, hd]; rfl) 1 i⟩
      · rw [hone, hd] at hrun
        refine SS.drawR follows (by decide) ?_
        repeat' (first | refine draw_known rfl (fun _ => rfl) (fun _ => rfl) (fun _ => rfl) ?_ | fail)
        refine draw_eff1 rfl rfl ?_
        refine eff_known (fun _ => rfl) (fun _ => rfl) (fun _ => rfl) ?_
        repeat' (first | refine And.intro rfl ?_ | fail)
        change drawnR _ _ _ _ _ _ _ _ _ _
        refine draw_eff1 rfl rfl ?_
        refine eff_known (fun _ => rfl) (fun _ => rfl) (fun _ => rfl) ?_
        repeat' (first | refine And.intro rfl ?_ | fail)
        change drawnR _ _ _ _ _ _ _ _ _ _
        refine draw_end rfl rfl rfl ?_
        refine And.intro (by simp) (Or.inl (And.intro rfl (And.intro (by simp) (And.intro (by show (outs.length + 1) * 8 ≤ _; omega) (And.intro (by show outs.length + 1 ≤ _; omega) ?_)))))
        refine At.mk' [1, 3, 6, 9, 10, 19, 20, 21] (i + 1, q, outs ++ [m], mpPut es [x.t, x.k] m clk, mpClk es [x.t, x.k] clk) ⟨⟨hlt2, by simp [hol], ?_⟩, by show k - (i + 1) < k - i; omega⟩ ⟨?_, rfl⟩ ?_ rfl (by simp) (by simp) (by decide)
        · dsimp only
          rw [hrun, show mpGet (mpPut es [x.t, x.k] m clk) = rpPut (mpGet es) [x.t, x.k] m from funext fun k' => mpGet_put ..]
          simp only [Option.bind_some]
          cases rp calls (pts.drop (i + 1)) q (rpPut (mpGet es) [x.t, x.k] m) with
          | none => rfl
          | some r => simp
        · rw [wrap_i64 (i + 1) (by omega) (by omega)]
          simp only [List.length_append, List.length_singleton]
          rfl
        · simp only [List.map_append, List.map_cons, List.map_nil]
          rfl
  · have hlt : ¬ (i : Int) < (k : Int) := of_decide_eq_false hlt
    obtain rfl : i = k := by omega
    rw [List.drop_of_length_le (by omega), rp] at hrun
    refine ⟨6, [0, 1, 5], _, _, rfl, rfl, by decide, by decide, rfl, rfl, rfl, rfl, rfl, h1 p outs (by rw [hrun]; simp)⟩

end
end Go.Mac
end
