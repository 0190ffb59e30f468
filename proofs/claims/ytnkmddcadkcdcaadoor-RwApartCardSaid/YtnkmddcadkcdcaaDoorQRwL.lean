/- Those who look, or change: their programs as bodies. -/
import Derived.Test.YtnkmddcadkcdcaaDoorQRwS
import Derived.Test.YtnkmddcadkcdcaaDoorQShared
import Derived.Test.YtnkmddcadkcdcaaDoorQLookers
open Go Go.Proofs Go.Mac
set_option maxRecDepth 100000
namespace Go.Mac

def ownsB (x : List Int) : List Bool := (x.take 6).map fun n => Int.tmod n 3 == 0
def ownsL (l : List (List Int)) : List (List Bool) := (l.take 8).map ownsB

theorem rw_pair (n : Int) (out : List InsZ) : (look2 n).foldl (fun out c => out ++ rwIns out.length c) out = out ++ (rwB (Int.tmod n 3 == 0)).map (relI (out.length : Nat)) := by
  by_cases h : Int.tmod n 3 = 0
  · rw [look2, if_pos h, h]
    simp [rwIns, rwB, relI]
  · rw [look2, if_neg h, show (Int.tmod n 3 == 0) = false by simpa using h]
    simp [rwIns, rwB, relI]

theorem rw_pairs : ∀ (x : List Int) (out : List InsZ), ((x.map look2).flatten).foldl (fun out c => out ++ rwIns out.length c) out = out ++ catU out.length ((x.map fun n => Int.tmod n 3 == 0).map rwB)
  | [], out => by simp [catU]
  | n :: x, out => by
    rw [List.map_cons, List.flatten_cons, List.foldl_append, rw_pair, rw_pairs x]
    simp [catU]

theorem rwP_look (x : List Int) : rwP (lookL x) = catP ((ownsB x).map rwB) := by
  rw [rwP, rwU, lookL, lookJ, rw_pairs, catP, ownsB]
  simp

theorem rwM_look (l : List (List Int)) : mz0 ((lookersZ l).map rwP) [0] = rwM (ownsL l) := by
  rw [rwM, lookersZ, ownsL, List.map_map, List.map_map]
  congr 1
  exact List.map_congr_left fun x _ => rwP_look x

theorem lookL_fit (x : List Int) : ∀ c ∈ lookL x, rwFit c := fun c hc => by
  rw [lookL, lookJ, List.mem_flatten] at hc
  obtain ⟨q, hq, hc⟩ := hc
  obtain ⟨n, _, rfl⟩ := List.mem_map.1 hq
  rw [look2] at hc
  split at hc
  · simp only [List.mem_cons, List.not_mem_nil, or_false] at hc
    rcases hc with rfl | rfl <;> simp [rwFit]
  · simp only [List.mem_cons, List.not_mem_nil, or_false] at hc
    rcases hc with rfl | rfl <;> simp [rwFit]

theorem lookL_len (x : List Int) : (lookL x).length ≤ 12 := by
  have h : ∀ y : List Int, ((y.map look2).flatten).length = 2 * y.length := fun y => by
    induction y with
    | nil => rfl
    | cons n y ih => rw [List.map_cons, List.flatten_cons, List.length_append, ih, look2_len, List.length_cons]; omega
  rw [lookL, lookJ, h, List.length_take]
  omega

theorem ownsB_len (x : List Int) : (ownsB x).length ≤ 6 := by rw [ownsB, List.length_map, List.length_take]; omega

/-- What one needs to ask for such a machine. -/
theorem lookers_made (l : List (List Int)) (ms : List MoveZ) : (lookersZ l).length = min l.length 8 ∧ (∀ x ∈ lookersZ l, ∀ c ∈ x, rwFit c) ∧ (∀ x ∈ lookersZ l, x.length ≤ 12) ∧ (∀ p ∈ (lookersZ l).map rwP, rightZ p 1 = true) ∧
    RwI (7560 + 6 * ms.length) (min l.length 8) (lsF (ownsL l)) (movesZ (mz0 ((lookersZ l).map rwP) [0]) ms) := by
  refine ⟨by rw [lookersZ, List.length_map, List.length_take]; omega, fun x hx => ?_, fun x hx => ?_, fun p hp => ?_, ?_⟩
  · obtain ⟨y, _, rfl⟩ := List.mem_map.1 hx
    exact lookL_fit y
  · obtain ⟨y, _, rfl⟩ := List.mem_map.1 hx
    exact lookL_len y
  · obtain ⟨x, hx, rfl⟩ := List.mem_map.1 hp
    obtain ⟨y, _, rfl⟩ := List.mem_map.1 hx
    rw [rwP_look]
    exact rw_right (ownsB_len y)
  · rw [rwM_look]
    have hn : (ownsL l).length = min l.length 8 := by rw [ownsL, List.length_map, List.length_take]; omega
    have := rw_moves (ll := ownsL l) (by omega) (fun x hx => by obtain ⟨y, _, rfl⟩ := List.mem_map.1 hx; exact ownsB_len y) ms
    rw [hn] at this
    exact this

end Go.Mac
