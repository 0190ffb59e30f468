/- story.Print. -/
import Derived.Test.YtlimhldkkbaohaaDoorQStoryR
import Derived.Test.YtlimhldkkbaohaaDoorQStoryL
import Derived.Test.YtlimhldkkbaohaaDoorQBld
open Go Go.Proofs Go.Mac
set_option maxRecDepth 100000
namespace Go.Mac

section
variable {K : AV → List Nat → List PO → Prop}

set_option maxHeartbeats 2000000 in
theorem storyPrint {all es : List EvZ} {n o : Nat} {ro nn : Bool} {c : Option Nat} (hl : es.length = n) (hall : ∀ i, i < n → all[o + i]? = es[i]?) (hn : n ≤ 1000000) (h64 : ∀ e ∈ es, Ev64 e)
    (h1 : rightE 0 es = true → K (.tup [.c (.f (.str (printS es))), .c .niliface]) [] [powH, namesH, .rows ro 4 (all.map rowEv)])
    (h0 : rightE 0 es = false → K (.tup [.c (.f (.str [])), .c (.iface 115 (.f (.int .i64 1)))]) [] [powH, namesH, .rows ro 4 (all.map rowEv)]) :
    Does Tryd.prog 30 [cv (.slc 2 o n c nn)] [powH, namesH, .rows ro 4 (all.map rowEv)] K := by
  refine Does.keep 3 rfl ?_
  refine does Tryd.func30 rfl (by decide) ?_
  change Does Tryd.prog 29 _ _ _
  refine Does.on 3 [2] _ _ (storyRight hl hall (by omega) ?_)
  cases hr : rightE 0 es with
  | false => exact ⟨3, [0, 1, 2], _, _, rfl, rfl, by decide, by decide, rfl, rfl, rfl, rfl, rfl, h0 hr⟩
  | true =>
    intro bk
    refine SS.loop (fun i : Nat => i ≤ n) (fun i => [(4, cv (.hptr bk)), (11, cv (.slc 2 o n c nn)), (12, i64 n), (13, i64 i)]) (fun i => [powH, namesH, .rows ro 4 (all.map rowEv), bldH bk (printS (es.take i))]) (fun i => n - i) [3, 4, 5]
      (At.mk' [4, 11, 12, 13] 0 (by simp) ⟨rfl, rfl⟩ rfl rfl (by simp) (by simp) (by simp)) ?_
    intro i hi
    change i ≤ n at hi
    refine S_r ?_
    refine brc_intro (fun hlt => ?_) (fun hlt => ?_)
    · have hlt : i < n := by
        have := of_decide_eq_true hlt
        have : (i : Int) < (n : Int) := this
        omega
      obtain ⟨e, he⟩ : ∃ e, es[i]? = some e := ⟨_, List.getElem?_eq_getElem (by omega)⟩
      have hep := List.mem_of_getElem? he
      have hra : (all.map rowEv)[o + Int.toNat (i : Int)]? = some (rowEv e) := by rw [Int.toNat_natCast, List.getElem?_map, hall i hlt, he]; rfl
      have h6 := h64 e hep
      have hok := okE_spec.1 (right_mem hr e hep)
      have hbl := printS_len (es.take i) fun x hx => h64 x (List.mem_of_mem_take hx)
      rw [List.length_take] at hbl
      have lw := itoa_len h6.w.1 h6.w.2
      have lt := itoa_len h6.t.1 h6.t.2
      have lv := itoa_len h6.v.1 h6.v.2
      refine at2 (a := (0 : Int) ≤ (i : Int)) (b := (i : Int) < (n : Int)) (by omega) (by omega) (rdA (rowEv e) hra ?_)
      refine SS.drawR follows (by decide) ?_
      have hsp : ({ data := #[32] } : ByteArray).data.toList.length = 1 := rfl
      have hnl : ({ data := #[10] } : ByteArray).data.toList.length = 1 := rfl
      have a0 : (0 : Int) ≤ e.a := by omega
      have a1 : e.a < ((4 : Nat) : Int) := by omega
      have hnm : (namesE.map FC.str)[0 + e.a.toNat * 1]? = some (.str (namesE.getD e.a.toNat [])) := by
        rcases (show e.a = 1 ∨ e.a = 2 ∨ e.a = 3 by omega) with h | h | h <;> rw [h] <;> rfl
      have ln : (namesE.getD e.a.toNat []).length ≤ 4 := by
        rcases (show e.a = 1 ∨ e.a = 2 ∨ e.a = 3 by omega) with h | h | h <;> rw [h] <;> decide
      refine at2 a0 a1 (Exists.intro (FC.str (namesE.getD e.a.toNat [])) (And.intro hnm ?_))
      change Does Tryd.prog 66 _ _ _
      refine Does.on 5 [0] _ _ (strItoa e.w h6.w.1 h6.w.2 ?_)
      repeat' (first | refine And.intro rfl ?_ | refine And.intro (And.intro a0 (And.intro a1 rfl)) ?_ | refine And.intro (Exists.intro (FC.str (namesE.getD e.a.toNat [])) (And.intro hnm rfl)) ?_ | refine And.intro (And.intro (by simp only [List.length_append, hsp]; omega) rfl) ?_ | refine And.intro (by simp only [List.length_append, hsp]; omega) ?_ | fail)
      change Does Tryd.prog 66 _ _ _
      refine Does.on 5 [0] _ _ (strItoa e.t h6.t.1 h6.t.2 ?_)
      repeat' (first | refine And.intro rfl ?_ | refine And.intro (And.intro a0 (And.intro a1 rfl)) ?_ | refine And.intro (Exists.intro (FC.str (namesE.getD e.a.toNat [])) (And.intro hnm rfl)) ?_ | refine And.intro (And.intro (by simp only [List.length_append, hsp]; omega) rfl) ?_ | refine And.intro (by simp only [List.length_append, hsp]; omega) ?_ | fail)
      change Does Tryd.prog 66 _ _ _
      refine Does.on 5 [0] _ _ (strItoa e.v h6.v.1 h6.v.2 ?_)
      repeat' (first | refine And.intro rfl ?_ | refine And.intro (And.intro a0 (And.intro a1 rfl)) ?_ | refine And.intro (Exists.intro (FC.str (namesE.getD e.a.toNat [])) (And.intro hnm rfl)) ?_ | refine And.intro (And.intro (by simp only [List.length_append, hsp]; omega) rfl) ?_ | refine And.intro (by simp only [List.length_append, hsp]; omega) ?_ | fail)
      refine And.intro (by simp only [List.length_append, hsp, hnl]; omega) ?_
      change Does Tryd.prog 64 _ _ _
      have eX : Lib.itoa e.w ++ [32] ++ namesE.getD e.a.toNat [] ++ [32] ++ Lib.itoa e.t ++ [32] ++ Lib.itoa e.v ++ [10] = printE e ++ [10] := by simp [printE, wordsE, joinB]
      refine Does.on 5 [3] _ _ (bldWrite (k := bk) (bs := printS (es.take i)) (s := Lib.itoa e.w ++ [32] ++ namesE.getD e.a.toNat [] ++ [32] ++ Lib.itoa e.t ++ [32] ++ Lib.itoa e.v ++ [10]) (by simp) (by simp only [List.length_append, List.length_cons, List.length_nil]; omega) ?_)
      rw [eX, ← List.append_assoc, ← printS_take he]
      repeat' (first | refine And.intro rfl ?_ | refine And.intro (And.intro a0 (And.intro a1 rfl)) ?_ | refine And.intro (Exists.intro (FC.str (namesE.getD e.a.toNat [])) (And.intro hnm rfl)) ?_ | refine And.intro (And.intro (by simp only [List.length_append, hsp]; omega) rfl) ?_ | refine And.intro (And.intro (by simp only [List.length_append, hsp, hnl]; omega) rfl) ?_ | fail)
      refine At.mk' [4, 11, 12, 13] (i + 1) ⟨hlt, by omega⟩ ⟨?_, rfl⟩ rfl rfl (by simp) (by simp) (by decide)
      rw [wrap_i64 _ (by omega) (by omega)]
      rfl
    · have hlt : ¬ (i : Int) < (n : Int) := of_decide_eq_false hlt
      obtain rfl : n = i := by omega
      rw [List.take_of_length_le (by omega)]
      change Does Tryd.prog 67 _ _ _
      refine Does.on 4 [3] _ _ (bldString ?_)
      exact ⟨3, [0, 1, 2], _, _, rfl, rfl, by decide, by decide, rfl, rfl, rfl, rfl, rfl, h1 hr⟩

end
end Go.Mac
