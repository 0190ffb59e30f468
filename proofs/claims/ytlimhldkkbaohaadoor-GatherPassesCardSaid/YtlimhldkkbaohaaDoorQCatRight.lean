/- Programs that are made of bodies may be. -/
import Derived.Test.YtlimhldkkbaohaaDoorGSys
import Derived.Test.YtlimhldkkbaohaaDoorGCutMade
open Go Go.Proofs Go.Mac
set_option maxRecDepth 100000
namespace Go.Mac

theorem okI_rel {cells size p : Int} {L : Nat} {i : InsZ} (h : okI cells ((L : Int) + 1) i = true) (hp : 0 ≤ p) (hs : p + L < size) : okI cells size (relI p i) = true := by
  obtain ⟨op, a, b, c, d⟩ := i
  have hop : 0 ≤ op ∧ op < 17 := by
    simp only [okI, Bool.and_eq_true, decide_eq_true_eq] at h
    exact h.1.1.1.1
  rcases (show op = 0 ∨ op = 1 ∨ op = 2 ∨ op = 3 ∨ op = 4 ∨ op = 5 ∨ op = 6 ∨ op = 7 ∨ op = 8 ∨ op = 9 ∨ op = 10 ∨ op = 11 ∨ op = 12 ∨ op = 13 ∨ op = 14 ∨ op = 15 ∨ op = 16 by omega) with rfl | rfl | rfl | rfl | rfl | rfl | rfl | rfl | rfl | rfl | rfl | rfl | rfl | rfl | rfl | rfl | rfl <;> first
    | exact h
    | (simp [okI, relI, fo, formZ, fitsZ] at h ⊢; omega)

theorem catU_ok {cells size : Int} : ∀ (bs : List (List InsZ)) (p : Nat), (∀ b ∈ bs, ∀ i ∈ b, okI cells ((b.length : Int) + 1) i = true) → ((p + offB bs bs.length : Nat) : Int) < size → ∀ i ∈ catU p bs, okI cells size i = true
  | [], _, _, _, i, hi => by cases hi
  | b :: bs, p, h, hs, i, hi => by
    rw [List.length_cons, offB_cons] at hs
    rw [catU, List.mem_append] at hi
    rcases hi with hi | hi
    · obtain ⟨j, hj, rfl⟩ := List.mem_map.1 hi
      exact okI_rel (h b (by simp) j hj) (by omega) (by omega)
    · exact catU_ok bs (p + b.length) (fun c hc => h c (by simp [hc])) (by omega) i hi

theorem catP_right {bs : List (List InsZ)} {cells : Int} (hc : 0 ≤ cells ∧ cells ≤ 300) (hb : ∀ b ∈ bs, ∀ i ∈ b, okI cells ((b.length : Int) + 1) i = true) (hl : offB bs bs.length < 600) : rightZ (catP bs) cells = true := by
  have hlen : (catP bs).length = offB bs bs.length + 1 := by rw [catP, List.length_append, catU_len]; rfl
  rw [rightZ, decide_eq_true hc, hlen, decide_eq_true (by omega)]
  simp only [Bool.true_and, Bool.and_eq_true]
  refine ⟨List.all_eq_true.2 fun i hi => ?_, ?_⟩
  · rw [catP, List.mem_append] at hi
    rcases hi with hi | hi
    · exact catU_ok bs 0 hb (by omega) i hi
    · obtain rfl := List.mem_singleton.1 hi
      simp [okI, fo, formZ, fitsZ]
  · rw [lastOp, catP, List.getLast?_append]
    rfl

/-- All bodies are short. -/
theorem offB_le {n : Nat} : ∀ (bs : List (List InsZ)) (_ : ∀ b ∈ bs, b.length ≤ n) (j : Nat), offB bs j ≤ n * bs.length
  | [], _, j => by simp [offB]
  | b :: bs, h, 0 => by simp [offB]
  | b :: bs, h, j + 1 => by
    rw [offB_cons, List.length_cons, Nat.mul_succ]
    have := offB_le bs (fun c hc => h c (by simp [hc])) j
    have := h b (by simp)
    omega

/-- What is said of calls one behind the other is of bodies. -/
theorem foldl_catU (f : Nat → CallZ → List InsZ) (b : CallZ → List InsZ) (hf : ∀ p c, f p c = (b c).map (relI p)) : ∀ (l : List CallZ) (out : List InsZ), l.foldl (fun o c => o ++ f o.length c) out = out ++ catU out.length (l.map b)
  | [], out => by simp [catU]
  | c :: l, out => by
    rw [List.foldl_cons, foldl_catU f b hf l, List.map_cons, catU, hf, List.length_append, List.length_map, List.append_assoc]

end Go.Mac
