/- Texts that belong together; the first of them: Calls that take effect at points, one behind the other. -/
import Derived.Test.YtlimhldkkbaohaaDoorQPhaserG
import Derived.Test.YtlimhldkkbaohaaDoorQPoint
import Derived.Test.YtlimhldkkbaohaaDoorGMapA
import Derived.Test.YtlimhldkkbaohaaDoorQPackG

/- Calls that take effect at points, one behind the other. -/
section
open Go Go.Proofs Go.Mac
set_option maxRecDepth 100000
namespace Go.Mac

def rpCall (calls : List (List CallZ)) (x : PtZ) : Option CallZ := if 0 ≤ x.t ∧ 0 ≤ x.k then (calls[x.t.toNat]?).bind fun l => l[x.k.toNat]? else none
def rpAsk (c : CallZ) (late : Bool) (f : Int) : CallZ := if c.w = 9 then (if late = true then ⟨10, if f > 0 then f else 0⟩ else ⟨7, c.n⟩) else c
def rpOne (calls : List (List CallZ)) (p : Ph) (x : PtZ) (f : Int) : Option (Ph × Int) := (rpCall calls x).bind fun c => phDo p (rpAsk c x.l f).w (rpAsk c x.l f).n
def rpPut (f : List Int → Int) (k : List Int) (n : Int) : List Int → Int := fun k' => if k' = k then n else f k'

def rp (calls : List (List CallZ)) : List PtZ → Ph → (List Int → Int) → Option (Ph × List Int)
  | [], p, _ => some (p, [])
  | x :: xs, p, f => (rpOne calls p x (f [x.t, x.k])).bind fun q => (rp calls xs q.1 (rpPut f [x.t, x.k] q.2)).map fun r => (r.1, q.2 :: r.2)

theorem rp_append (calls : List (List CallZ)) : ∀ (a b : List PtZ) (p : Ph) (f : List Int → Int), ∃ g, rp calls (a ++ b) p f = (rp calls a p f).bind fun r => (rp calls b r.1 g).map fun s => (s.1, r.2 ++ s.2)
  | [], b, p, f => ⟨f, by rw [List.nil_append, rp]; cases h : rp calls b p f <;> simp [h]⟩
  | x :: a, b, p, f => by
    rw [List.cons_append, rp, rp]
    cases h : rpOne calls p x (f [x.t, x.k]) with
    | none => exact ⟨f, rfl⟩
    | some q =>
      obtain ⟨g, hg⟩ := rp_append calls a b q.1 (rpPut f [x.t, x.k] q.2)
      refine ⟨g, ?_⟩
      simp only [Option.bind_some]
      rw [hg]
      cases rp calls a q.1 (rpPut f [x.t, x.k] q.2) with
      | none => rfl
      | some r =>
        simp only [Option.bind_some, Option.map_some]
        cases rp calls b r.1 g <;> rfl

theorem rp_early (calls : List (List CallZ)) : ∀ (a : List PtZ) (p : Ph) (f g : List Int → Int), (∀ x ∈ a, x.l = false) → rp calls a p f = rp calls a p g
  | [], p, f, g, _ => rfl
  | x :: a, p, f, g, h => by
    have hx := h x (by simp)
    have e : rpOne calls p x (f [x.t, x.k]) = rpOne calls p x (g [x.t, x.k]) := by
      simp only [rpOne, rpAsk, hx]
      rfl
    rw [rp, rp, e]
    cases rpOne calls p x (g [x.t, x.k]) with
    | none => rfl
    | some q =>
      simp only [Option.bind_some]
      rw [rp_early calls a q.1 _ (rpPut g [x.t, x.k] q.2) (fun y hy => h y (by simp [hy]))]

theorem rp_len (calls : List (List CallZ)) : ∀ (a : List PtZ) (p : Ph) (f : List Int → Int) (r : Ph × List Int), rp calls a p f = some r → r.2.length = a.length
  | [], p, f, r, h => by obtain rfl := Option.some.inj h; rfl
  | x :: a, p, f, r, h => by
    rw [rp] at h
    cases hq : rpOne calls p x (f [x.t, x.k]) with
    | none => rw [hq] at h; cases h
    | some q =>
      rw [hq] at h
      simp only [Option.bind_some] at h
      cases hr : rp calls a q.1 (rpPut f [x.t, x.k] q.2) with
      | none => rw [hr] at h; cases h
      | some s =>
        rw [hr] at h
        obtain rfl := Option.some.inj h
        simp [rp_len calls a _ _ s hr]

/-- Points in two parts, the second of which has none that is late. -/
theorem rp_parts {calls : List (List CallZ)} {pts : List PtZ} {at0 : Nat} {p : Ph} {f : List Int → Int} (hl : ∀ x ∈ pts.drop at0, x.l = false) :
    (rp calls pts p f = none ↔ (rp calls (pts.take at0) p f = none ∨ ∃ r, rp calls (pts.take at0) p f = some r ∧ rp calls (pts.drop at0) r.1 f = none)) ∧
    ∀ r s, rp calls (pts.take at0) p f = some r → rp calls (pts.drop at0) r.1 f = some s → rp calls pts p f = some (s.1, r.2 ++ s.2) := by
  obtain ⟨g, hg⟩ := rp_append calls (pts.take at0) (pts.drop at0) p f
  rw [List.take_append_drop] at hg
  rw [hg]
  constructor
  · cases h1 : rp calls (pts.take at0) p f with
    | none => simp
    | some r =>
      simp only [Option.bind_some]
      rw [rp_early calls _ r.1 g f hl]
      cases h2 : rp calls (pts.drop at0) r.1 f <;> simp [h2]
  · intro r s h1 h2
    rw [h1]
    simp only [Option.bind_some]
    rw [rp_early calls _ r.1 g f hl, h2]
    rfl

end Go.Mac
end

/- packed.Of, beside the texts of gather. -/
section
open Go Go.Proofs Go.Mac
set_option maxRecDepth 100000
namespace Go.Mac

section
variable {K : AV → List Nat → List PO → Prop}

/-- The parts of a word. -/
def gO (w : Int) : Bool := decide (9223372036854775808 ≤ w)
def gPh (w : Int) : Int := w / 4294967296 % 2147483648
def gPa (w : Int) : Int := w / 65536 % 65536
def gWa (w : Int) : Int := w % 65536

theorem gPhEq (w : Int) (hw : 0 ≤ w ∧ w < 18446744073709551616) : IntKind.i64.wrap (IntKind.u64.wrap ↑(BitVec.ofInt IntKind.u64.bits (w.fdiv (2 ^ min (Int.toNat 32) IntKind.u64.bits)) &&& BitVec.ofInt IntKind.u64.bits 2147483647).toNat) = gPh w := by
  have e1 : (2 : Int) ^ min (Int.toNat 32) IntKind.u64.bits = 4294967296 := rfl
  have e3 : IntKind.u64.bits = 64 := rfl
  have e4 : w.fdiv 4294967296 = w / 4294967296 := Int.fdiv_eq_ediv_of_nonneg _ (by omega)
  rw [e1, e3, e4, and_z 31 _ 2147483647 (by omega) (by omega) (by omega) (by omega), wrap_u64 _ (by omega) (by omega), wrap_i64 _ (by omega) (by omega)]
  rfl

theorem gPaEq (w : Int) (hw : 0 ≤ w ∧ w < 18446744073709551616) : IntKind.i64.wrap (IntKind.u64.wrap ↑(BitVec.ofInt IntKind.u64.bits (w.fdiv (2 ^ min (Int.toNat 16) IntKind.u64.bits)) &&& BitVec.ofInt IntKind.u64.bits 65535).toNat) = gPa w := by
  have e1 : (2 : Int) ^ min (Int.toNat 16) IntKind.u64.bits = 65536 := rfl
  have e3 : IntKind.u64.bits = 64 := rfl
  have e4 : w.fdiv 65536 = w / 65536 := Int.fdiv_eq_ediv_of_nonneg _ (by omega)
  rw [e1, e3, e4, and_z 16 _ 65535 (by omega) (by omega) (by omega) (by omega), wrap_u64 _ (by omega) (by omega), wrap_i64 _ (by omega) (by omega)]
  rfl

theorem gWaEq (w : Int) (hw : 0 ≤ w ∧ w < 18446744073709551616) : IntKind.i64.wrap (IntKind.u64.wrap ↑(BitVec.ofInt IntKind.u64.bits w &&& BitVec.ofInt IntKind.u64.bits 65535).toNat) = gWa w := by
  have e3 : IntKind.u64.bits = 64 := rfl
  rw [e3, and_z 16 _ 65535 (by omega) (by omega) (by omega) (by omega), wrap_u64 _ (by omega) (by omega), wrap_i64 _ (by omega) (by omega)]
  rfl

theorem gOEq (w : Int) (hw : 0 ≤ w ∧ w < 18446744073709551616) : (w.fdiv (2 ^ min (Int.toNat 63) IntKind.u64.bits) == 1) = gO w := by
  have e1 : (2 : Int) ^ min (Int.toNat 63) IntKind.u64.bits = 9223372036854775808 := rfl
  have e4 : w.fdiv 9223372036854775808 = w / 9223372036854775808 := Int.fdiv_eq_ediv_of_nonneg _ (by omega)
  rw [e1, e4, Bool.eq_iff_iff]
  simp only [gO, decide_eq_true_eq, beq_iff_eq]
  omega

theorem gOfIs (w : Int) (hw : 0 ≤ w ∧ w < 18446744073709551616) (h0 : pkRightB (gPh w) (gPa w) (gWa w) = false → K (.tup [pkPhaseC false 0 0 0, pkErrC 3]) [] [])
    (h1 : pkRightB (gPh w) (gPa w) (gWa w) = true → K (.tup [pkPhaseC (gO w) (gPh w) (gPa w) (gWa w), pkOkC]) [] []) : Does Tryd.prog 58 [u64 w] [] K := by
  refine does Tryd.func58 rfl (by decide) ?_
  change Does Tryd.prog 79 _ _ _
  refine Does.alone 2 (pkRight _ _ _ _ ?_)
  rw [gPhEq w hw, gPaEq w hw, gWaEq w hw, gOEq w hw]
  refine brc_intro (fun h => ?_) (fun h => ?_)
  · exact h0 (by simpa using h)
  · exact h1 (by simpa using h)

end
end Go.Mac
end
