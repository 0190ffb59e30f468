/- Line by line: CodeJoins. -/
import Derived.Test.YtlimhldkkbaohaaDoorQCodeBk
import Derived.Test.YtlimhldkkbaohaaDoorQConcatI
open Go Go.Proofs Go.Mac
set_option maxRecDepth 100000
namespace Go.Mac

set_option maxHeartbeats 4000000 in
theorem codeJoins (p : List InsZ) (hp64 : ∀ x ∈ p, Ins64 x) (hl1 : p.length ≤ 3518437208883) (q : List InsZ) (hq64 : ∀ x ∈ q, Ins64 x) (hl2 : q.length ≤ 3518437208883) :
    Does Tryd.prog 6 [cv (.slc 0 0 p.length none false), cv (.slc 1 0 q.length none false)] [.rows true 5 (p.map rowIns), .rows true 5 (q.map rowIns), powH, errS, errR] fun v _ _ => v = bl true := by
  refine does Tryd.func6 rfl (by decide) ?_
  change Does Tryd.prog 22 _ _ _
  refine Does.on 5 [2, 3, 4] _ _ (writtenG ?_)
  have wr : IntKind.i64.wrap ((p.length : Int) + (q.length : Int)) = ((p.length + q.length : Nat) : Int) := wrap_i64 _ (by omega) (by omega)
  refine brc_intro (fun _ => rfl) (fun h => ?_)
  have hl : p.length + q.length ≤ 600 := by
    have h := of_decide_eq_false h
    have h : ¬ (600 : Int) < IntKind.i64.wrap ((p.length : Int) + (q.length : Int)) := h
    rw [wr] at h
    omega
  have hpq64 : ∀ x ∈ p ++ q, Ins64 x := fun x hx => (List.mem_append.1 hx).elim (hp64 x) (hq64 x)
  have hpqOk : ∀ {hp : ∀ x ∈ p, InsOk x} {hq : ∀ x ∈ q, InsOk x}, ∀ x ∈ p ++ q, InsOk x := fun {hp hq} x hx => (List.mem_append.1 hx).elim (hp x) (hq x)
  change Does Tryd.prog 24 _ _ _
  refine Does.on 5 [2, 0] _ _ (codePrint (p := p) (n := p.length) rfl (by omega) hp64 (fun hp => ?_) fun hp e i => ?_)
  · change Does Tryd.prog 24 _ _ _
    refine Does.on 5 [2, 1] _ _ (codePrint (p := q) (n := q.length) rfl (by omega) hq64 (fun hq => ?_) fun hq e i => ?_)
    · refine And.intro (List.length_map ..).symm (And.intro (List.length_map ..).symm ?_)
      change Does Tryd.prog 27 _ _ _
      refine Does.on 6 [5] _ _ (Does.asRo (concat2I p q (by omega) fun b => And.intro rfl (And.intro rfl (And.intro rfl ?_))))
      change Does Tryd.prog 24 _ _ _
      refine Does.on 7 [2, 6] _ _ (codePrint (p := p ++ q) (n := p.length + q.length) (List.length_append ..) (by omega) hpq64 (fun hpq => ?_) fun hpq => absurd (hpqOk (hp := hp) (hq := hq)) hpq)
      have hp1 := parse_print p hp
      have hq1 := parse_print q hq
      have hz1 := parse_print (p ++ q) hpq
      have hpl := printZ_len p hp
      have hql := printZ_len q hq
      have hzl := printZ_len (p ++ q) hpq
      rw [List.length_append] at hzl
      change Does Tryd.prog 25 _ _ _
      refine Does.on 7 [2, 3, 4] _ _ (codeParseG (s := printZ p) (by omega) (fun xs hx _ => ?_) (fun hx => absurd (hx _ hp1) (by simp; omega)) (fun hx => by rw [hp1] at hx; cases hx))
      obtain rfl := Option.some.inj (hp1.symm.trans hx)
      change Does Tryd.prog 25 _ _ _
      refine Does.on 8 [2, 3, 4] _ _ (codeParseG (s := printZ q) (by omega) (fun xs hx _ => ?_) (fun hx => absurd (hx _ hq1) (by simp; omega)) (fun hx => by rw [hq1] at hx; cases hx))
      obtain rfl := Option.some.inj (hq1.symm.trans hx)
      change Does Tryd.prog 25 _ _ _
      refine Does.on 9 [2, 3, 4] _ _ (codeParseG (s := printZ (p ++ q)) (by omega) (fun xs hx _ => ?_) (fun hx => absurd (hx _ hz1) (by simp; omega)) (fun hx => by rw [hz1] at hx; cases hx))
      obtain rfl := Option.some.inj (hz1.symm.trans hx)
      refine And.intro (by omega) ?_
      refine brc_intro (fun _ => ?_) (fun h => absurd h ?_)
      · refine And.intro (List.length_map ..).symm (And.intro (List.length_map ..).symm ?_)
        change Does Tryd.prog 27 _ _ _
        refine Does.on 11 [10] _ _ (concat2I (p.map normZ) (q.map normZ) (by simp; omega) fun b => ?_)
        change Does Tryd.prog 21 _ _ _
        have e3 : (p ++ q).map normZ = p.map normZ ++ q.map normZ := List.map_append ..
        have hl3 : (p.map normZ).length + (q.map normZ).length = (p.map normZ ++ q.map normZ).length := (List.length_append ..).symm
        rw [e3, hl3]
        refine Does.on 12 [9, 11] _ _ (equalIns (xs := p.map normZ ++ q.map normZ) (ys := p.map normZ ++ q.map normZ) (by simp; omega) (fun _ => ?_) fun h => absurd rfl h)
        rfl
      · rw [printZ_app]
        simp
    · refine And.intro (List.length_map ..).symm (And.intro (List.length_map ..).symm ?_)
      change Does Tryd.prog 27 _ _ _
      refine Does.on 7 [6] _ _ (Does.asRo (concat2I p q (by omega) fun b => And.intro rfl (And.intro rfl (And.intro rfl ?_))))
      change Does Tryd.prog 24 _ _ _
      refine Does.on 8 [2, 7] _ _ (codePrint (p := p ++ q) (n := p.length + q.length) (List.length_append ..) (by omega) hpq64 (fun hpq => absurd (fun x hx => hpq x (List.mem_append.2 (.inr hx))) hq) fun hpq e i => ?_)
      rfl
  · change Does Tryd.prog 24 _ _ _
    refine Does.on 6 [2, 1] _ _ (codePrint (p := q) (n := q.length) rfl (by omega) hq64 (fun hq => ?_) fun hq e i => ?_)
    · refine And.intro (List.length_map ..).symm (And.intro (List.length_map ..).symm ?_)
      change Does Tryd.prog 27 _ _ _
      refine Does.on 7 [6] _ _ (Does.asRo (concat2I p q (by omega) fun b => And.intro rfl (And.intro rfl (And.intro rfl ?_))))
      change Does Tryd.prog 24 _ _ _
      refine Does.on 8 [2, 7] _ _ (codePrint (p := p ++ q) (n := p.length + q.length) (List.length_append ..) (by omega) hpq64 (fun hpq => absurd (fun x hx => hpq x (List.mem_append.2 (.inl hx))) hp) fun hpq e i => ?_)
      rfl
    · refine And.intro (List.length_map ..).symm (And.intro (List.length_map ..).symm ?_)
      change Does Tryd.prog 27 _ _ _
      refine Does.on 8 [7] _ _ (Does.asRo (concat2I p q (by omega) fun b => And.intro rfl (And.intro rfl (And.intro rfl ?_))))
      change Does Tryd.prog 24 _ _ _
      refine Does.on 9 [2, 8] _ _ (codePrint (p := p ++ q) (n := p.length + q.length) (List.length_append ..) (by omega) hpq64 (fun hpq => absurd (fun x hx => hpq x (List.mem_append.2 (.inl hx))) hp) fun hpq e i => ?_)
      rfl

end Go.Mac
