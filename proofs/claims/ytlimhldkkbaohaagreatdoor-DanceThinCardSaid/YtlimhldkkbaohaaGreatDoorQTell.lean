/- api.Tell: the number of an error. -/
import Derived.Test.YtlimhldkkbaohaaGreatDoorGAs
import Derived.Test.YtlimhldkkbaohaaGreatDoorGBase
open Go Go.Proofs Go.Mac
set_option maxRecDepth 100000
namespace Go.Mac

abbrev rtH : PO := .hnd 2 203 10 26
abbrev eno (n : Int) : CV := .iface 70 (.f (.int .i64 n))

/-- A world that has grown: what there was is as it was. -/
theorem Rel.grow {B R : Nat → Prop} {w0 : World} {L : Nat → Loc} {H : List PO} {w w' : World} (h : Rel B R w0 L H w) (hb : Bel (fun k => k < w.heap.size) w w') : Rel B R w0 L H w' := by
  have hB : ∀ b, B b → w'.heap[b]? = w.heap[b]? := fun b hb' => hb.block b (h.size b hb')
  refine ⟨h.below.trans ⟨hb.os, hb.tape, hb.output, hb.size, hB⟩, h.start, fun i o hi => ?_, fun i o b hi ho => ?_, h.ro, h.sub⟩
  · have := (h.obj i o hi).mono (M := []) (w' := w') (Nat.le_refl _) (Agree.refl _ _ _) fun b hob => by
      rcases hob with ho | hr
      · exact hb.block b (h.own i o b hi ho).2.1
      · exact hB b (h.sub b (h.ro i o b hi hr))
    rwa [killO_nil] at this
  · obtain ⟨h1, h2, h3⟩ := h.own i o b hi ho
    exact ⟨h1, Nat.lt_of_lt_of_le h2 hb.size, h3⟩

theorem Bel.more {w w' : World} {N : Nat} (h : Bel (· < N) w w') (hN : N ≤ w'.heap.size) (o : Obj) : Bel (fun k => k < N) w (w'.alloc o) :=
  h.alloc (fun _k hk => Nat.lt_of_lt_of_le hk hN) o

theorem grown (t : Addr) (n : Int) (w : World) : Bel (fun k => k < w.heap.size) w ((AsKit.asW t w).alloc (.cells #[.int .i64 n] 70)) := by
  refine Bel.more (Bel.more (Bel.more (Bel.more (Bel.refl _ _) (Nat.le_refl _) _) ?_ _) ?_ _) ?_ _ <;> simp <;> omega

section
variable {K : AV → List Nat → List PO → Prop}

theorem frozen_no {w : World} {b n : Nat} {a : Addr} (h : Cells w b n) (hn : 0 < n) (ha : a = ⟨b, 0, none⟩) : w.frozen? a = false := by
  obtain ⟨c, t, fr, hblk, hsz, hfr⟩ := h
  subst ha
  rcases fr with ⟨lo, hi⟩
  simp only [World.frozen?, hblk]
  have := hfr 0 (by omega)
  simp at this ⊢
  omega

theorem set_errno {B R : Nat → Prop} {w0 : World} {L : Nat → Loc} {H : List PO} {w : World} (h : Rel B R w0 L H w) {r : Nat} {old : Int} (n : Int) (hr : H[r]? = some (.one [.f (.int .i64 old)])) :
    Rel B R w0 L (H.set r (.one [.f (.int .i64 n)])) (AsKit.asW2 ((L r).h.at 0 0) n w) := by
  have hg := h.grow (grown ((L r).h.at 0 0) n w)
  obtain ⟨hb, hs, hp, hc, hcell⟩ := h.obj r _ hr
  obtain ⟨_, _, _, hc', hcell'⟩ := hg.obj r _ hr
  have hlt := (List.getElem?_eq_some_iff.1 hr).1
  obtain ⟨w', H', hrun, _, hrel, hH⟩ := store_sound (P := Tryz.prog) hg (t := 70) (x := cv (.ptr r 0)) (y := cv (.f (.int .i64 n))) (v := .pointer (some ((L r).h.at 0 0))) (u := .int .i64 n) ⟨hlt, rfl⟩ rfl (K := fun H' => H' = H.set r (.one [.f (.int .i64 n)])) (by
    have : storeA Tryz.prog H 70 (cv (.ptr r 0)) (cv (.f (.int .i64 n))) (fun H' => H' = H.set r (.one [.f (.int .i64 n)])) = (match nth H r with
          | some (.one cs) => setsK cs 0 [.f (.int .i64 n)] fun cs' => setK H r (.one cs') fun H' => H' = H.set r (.one [.f (.int .i64 n)])
          | _ => False) := rfl
    rw [this, nth_eq, hr]
    show setK H r (.one [.f (.int .i64 n)]) _
    rw [setK_eq])
  subst hH
  have hold : (((AsKit.asW ((L r).h.at 0 0) w).alloc (.cells #[.int .i64 n] 70))).cell? ((L r).h.at 0 0) = some (.int .i64 old) := by
    obtain ⟨v, hv, hvr⟩ := hcell' 0 _ rfl
    rw [hv]
    exact congrArg some hvr
  have hfr : (((AsKit.asW ((L r).h.at 0 0) w).alloc (.cells #[.int .i64 n] 70))).frozen? ((L r).h.at 0 0) = false := frozen_no hc' (by simp) (by simp [ILoc.at, hb])
  have hrun' : (Instr.storeAt 70 (.pointer (some ((L r).h.at 0 0))) (.int .i64 n)).run Tryz.prog (((AsKit.asW ((L r).h.at 0 0) w).alloc (.cells #[.int .i64 n] 70))) = .ok () (AsKit.asW2 ((L r).h.at 0 0) n w) := by
    have hsz : ∀ w : World, (sizeOf 70).run Tryz.prog w = .ok 1 w := fun w => by kernel_rfl
    simp only [Instr.storeAt, Instr.sureAddr, storeVar, Sem.run_bind, Sem.run_pure, Result.andThen_ok, hsz]
    simp [Value.cells, storeCells, Addr.add]
    have e : (L r).h.at 0 0 = ⟨(L r).h.blk, 0, none⟩ := by simp [ILoc.at, hb]
    rw [e] at hold hfr ⊢
    rw [run_store Tryz.prog _ _ _ _ (by rfl)]
    simp [hold, hfr]
  rw [hrun'] at hrun
  cases hrun
  exact hrel

theorem cell_of {N : Nat} {L : Nat → Loc} {w : World} {n : Int} {cs : List CV} {l : Loc} (h : OR N L w (.one (.f (.int .i64 n) :: cs)) l) : w.cell? (l.h.at 0 0) = some (.int .i64 n) := by
  obtain ⟨_, _, _, _, h5⟩ := h
  obtain ⟨v, hv, hvr⟩ := h5 0 _ rfl
  rw [hv]
  exact congrArg some hvr

theorem asErrno (n old : Int) (h : K (bl true) [] [rtH, .one [.f (.int .i64 n)]]) : Does Tryz.prog 100 [cv (eno n), cv (.iface 162 (.ptr 1 0))] [rtH, .one [.f (.int .i64 old)]] K := by
  refine ⟨⟨_, Tryz.func100, by decide, rfl⟩, fun B R w0 L w vs hrel hvs => ?_⟩
  obtain ⟨_, _, rfl, ⟨_, rfl, rfl⟩, _, _, rfl, ⟨_, rfl, _, rfl⟩, rfl⟩ := hvs
  have hg := hrel.obj 0 _ rfl
  have ht := hrel.obj 1 _ rfl
  refine (AsKit.as_errno n ((L 1).h.at 0 0) (.int .i64 old) w hg (cell_of ht) (frozen_no ht.2.2.2.1 (by simp) (by simp [ILoc.at, ht.1]))).mono ?_
  rintro e w' ⟨rfl, rfl⟩
  have := set_errno hrel (r := 1) n rfl
  exact ⟨_, rfl, L, bl true, [], [rtH, .one [.f (.int .i64 n)]], Agree.refl _ _ _, Nat.le_refl 2, rfl, this, h⟩

theorem asAt (n old pl : Int) (h : K (bl true) [] [rtH, .one [.f (.int .i64 n)], .one [.f (.int .i64 n), .f (.int .i64 pl)]]) :
    Does Tryz.prog 100 [cv (.iface 71 (.ptr 2 0)), cv (.iface 162 (.ptr 1 0))] [rtH, .one [.f (.int .i64 old)], .one [.f (.int .i64 n), .f (.int .i64 pl)]] K := by
  refine ⟨⟨_, Tryz.func100, by decide, rfl⟩, fun B R w0 L w vs hrel hvs => ?_⟩
  obtain ⟨_, _, rfl, ⟨_, rfl, _, rfl⟩, _, _, rfl, ⟨_, rfl, _, rfl⟩, rfl⟩ := hvs
  have hg := hrel.obj 0 _ rfl
  have ht := hrel.obj 1 _ rfl
  have he := hrel.obj 2 _ rfl
  refine (AsKit.as_at n ((L 2).h.at 0 0) ((L 1).h.at 0 0) (.int .i64 old) w (cell_of he) hg (cell_of ht) (frozen_no ht.2.2.2.1 (by simp) (by simp [ILoc.at, ht.1]))).mono ?_
  rintro e w' ⟨rfl, rfl⟩
  have := set_errno hrel (r := 1) n rfl
  exact ⟨_, rfl, L, bl true, [], [rtH, .one [.f (.int .i64 n)], .one [.f (.int .i64 n), .f (.int .i64 pl)]], Agree.refl _ _ _, Nat.le_refl 3, rfl, this, h⟩

theorem tellNil (h : K (i64 0) [] []) : Does Tryz.prog 75 [cv .niliface] [] K := by
  refine does Tryz.func75 rfl (by decide) ?_
  exact h

theorem tellErrno (n : Int) (h : K (i64 n) [] [rtH]) : Does Tryz.prog 75 [cv (eno n)] [rtH] K := by
  refine Does.cut 1 ?_
  refine does Tryz.func75 rfl (by decide) ?_
  change Does Tryz.prog 100 _ _ _
  refine asErrno n 0 ?_
  exact ⟨by simp, by simp, rfl, rfl, h⟩

theorem tellAt (n pl : Int) (h : K (i64 n) [] [rtH, .one [.f (.int .i64 n), .f (.int .i64 pl)]]) : Does Tryz.prog 75 [cv (.iface 71 (.ptr 1 0))] [rtH, .one [.f (.int .i64 n), .f (.int .i64 pl)]] K := by
  refine Does.cut 2 ?_
  refine does Tryz.func75 rfl (by decide) ?_
  change Does Tryz.prog 100 _ _ _
  refine Does.on 3 [0, 2, 1] _ _ (asAt n 0 pl ?_)
  exact ⟨by simp, by simp, rfl, rfl, h⟩

end
end Go.Mac
