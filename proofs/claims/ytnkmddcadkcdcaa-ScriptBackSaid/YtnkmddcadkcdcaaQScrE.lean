/- Scripts as bytes, and back. -/
import Derived.Test.YtnkmddcadkcdcaaQScrZ
open Go Go.Proofs Go.Mac
set_option maxRecDepth 100000
namespace Go.Mac

def encM (x : MoveZ) : Int := x.th + if x.pk = true then 224 else 0
def encI (k n r : Int) (ms : List MoveZ) : List Int := [k - 1, n - 1, r] ++ ms.map encM
def encT (k n r : Int) (ms : List MoveZ) : List UInt8 := (encI k n r ms).map fun i => UInt8.ofNat i.toNat

theorem u8_of {i : Int} (h0 : 0 ≤ i) (h1 : i < 256) : ((UInt8.ofNat i.toNat).toNat : Int) = i := by
  rw [UInt8.toNat_ofNat']
  have : i.toNat % 2 ^ 8 = i.toNat := Nat.mod_eq_of_lt (by omega)
  rw [this]
  omega

theorem encT_len (k n r : Int) (ms : List MoveZ) : (encT k n r ms).length = 3 + ms.length := by
  rw [encT, encI, List.length_map, List.length_append, List.length_map]
  rfl

theorem encT_pad (k n r : Int) (ms : List MoveZ) : padB (encT k n r ms) = encT k n r ms := padB_long (by rw [encT_len]; omega)

theorem dec_encM {n : Int} {x : MoveZ} (h0 : 0 ≤ x.th) (h1 : x.th < n) (h8 : n ≤ 8) : decM n (UInt8.ofNat (encM x).toNat) = x := by
  obtain ⟨th, pk⟩ := x
  dsimp only at h0 h1
  cases pk with
  | true =>
    have e : encM ⟨th, true⟩ = th + 224 := rfl
    rw [e, decM, u8_of (by omega) (by omega), if_pos (by omega), show th + 224 - 224 = th by omega, wrap_u8 _ (by omega) (by omega), wrap_i64 _ (by omega) (by omega), Int.tmod_eq_emod_of_nonneg h0, Int.emod_eq_of_lt h0 h1]
  | false =>
    have e : encM ⟨th, false⟩ = th := by simp [encM]
    rw [e, decM, u8_of (by omega) (by omega), if_neg (by omega), wrap_i64 _ (by omega) (by omega), Int.tmod_eq_emod_of_nonneg h0, Int.emod_eq_of_lt h0 h1]

/-- Bytes of a script are that script. -/
theorem dec_enc {k n r : Int} {ms : List MoveZ} (hk : 1 ≤ k ∧ k ≤ 6) (hn : 1 ≤ n ∧ n ≤ 8) (hr : 0 ≤ r ∧ r ≤ 5) (hms : ∀ x ∈ ms, 0 ≤ x.th ∧ x.th < n) :
    scrK (encT k n r ms) = k ∧ scrN (encT k n r ms) = n ∧ scrR (encT k n r ms) = r ∧ scrM (encT k n r ms) = ms := by
  have hp := encT_pad k n r ms
  have g0 : (encT k n r ms).getD 0 0 = UInt8.ofNat (k - 1).toNat := rfl
  have g1 : (encT k n r ms).getD 1 0 = UInt8.ofNat (n - 1).toNat := rfl
  have g2 : (encT k n r ms).getD 2 0 = UInt8.ofNat r.toNat := rfl
  have eN : scrN (encT k n r ms) = n := by
    rw [scrN, hp, g1, u8_of (by omega) (by omega), wrap_i64 (n - 1) (by omega) (by omega), Int.tmod_eq_emod_of_nonneg (by omega), Int.emod_eq_of_lt (by omega) (by omega), wrap_i64 _ (by omega) (by omega)]
    omega
  refine ⟨?_, eN, ?_, ?_⟩
  · rw [scrK, hp, g0, u8_of (by omega) (by omega), wrap_i64 (k - 1) (by omega) (by omega), Int.tmod_eq_emod_of_nonneg (by omega), Int.emod_eq_of_lt (by omega) (by omega), wrap_i64 _ (by omega) (by omega)]
    omega
  · rw [scrR, hp, g2, u8_of (by omega) (by omega), wrap_i64 r (by omega) (by omega), Int.tmod_eq_emod_of_nonneg (by omega), Int.emod_eq_of_lt (by omega) (by omega)]
  · rw [scrM, hp, eN]
    show ((ms.map encM).map fun i => UInt8.ofNat i.toNat).map (decM n) = ms
    rw [List.map_map, List.map_map]
    conv => rhs; rw [← List.map_id ms]
    refine List.map_congr_left fun x hx => ?_
    obtain ⟨h0, h1⟩ := hms x hx
    exact dec_encM h0 h1 hn.2

theorem encI_succ (k n r : Int) {ms : List MoveZ} {i : Nat} {x : MoveZ} (h : ms[i]? = some x) : encI k n r (ms.take (i + 1)) = encI k n r (ms.take i) ++ [encM x] := by
  rw [encI, encI, List.take_add_one, h, List.map_append, List.append_assoc]
  rfl

theorem encI_len (k n r : Int) (ms : List MoveZ) : (encI k n r ms).length = 3 + ms.length := by
  rw [encI, List.length_append, List.length_map]
  rfl

def scrB (k n r : Int) (ms : List MoveZ) : Prop := (1 ≤ k ∧ k ≤ 6) ∧ (1 ≤ n ∧ n ≤ 8) ∧ (0 ≤ r ∧ r ≤ 5) ∧ ∀ x ∈ ms, 0 ≤ x.th ∧ x.th < n

section
variable {K : AV → List Nat → List PO → Prop}

theorem encodeS {k n r : Int} {ms : List MoveZ} {m : Nat} {ro nn : Bool} {c : Option Nat} (hB : scrB k n r ms) (hm : ms.length = m) (hb : m ≤ 100000) (h : K (.tup [.c (.f (.str (encT k n r ms))), .c .niliface]) [] [.rows ro 2 (ms.map rowMove)]) :
    Does Try.prog 17 [.p (.agg [.f (.int .i64 k), .f (.int .i64 n), .f (.int .i64 r), .slc 0 0 m c nn])] [.rows ro 2 (ms.map rowMove)] K := by
  obtain ⟨hk, hn, hr, hms⟩ := hB
  refine does Try.func17 rfl (by decide) ?_
  change Does Try.prog 16 _ _ _
  refine Does.on 2 [0] _ _ (scrRight (k := k) (n := n) (r := r) (ms := ms) (m := m) hk hn hr hm hb hms ?_)
  have w1 : IntKind.u8.wrap (IntKind.i64.wrap (k - 1)) = k - 1 := by rw [wrap_i64 _ (by omega) (by omega), wrap_u8 _ (by omega) (by omega)]
  have w2 : IntKind.u8.wrap (IntKind.i64.wrap (n - 1)) = n - 1 := by rw [wrap_i64 _ (by omega) (by omega), wrap_u8 _ (by omega) (by omega)]
  have w3 : IntKind.u8.wrap r = r := wrap_u8 _ (by omega) (by omega)
  refine SS.loop (fun p : Nat × Bool => p.1 ≤ m) (fun p => [(1, cv (.ptr 1 0)), (4, cv (.slc 2 0 (3 + p.1) none p.2)), (25, cv (.slc 0 0 m c nn)), (26, i64 m), (27, i64 p.1)])
    (fun p => [.rows ro 2 (ms.map rowMove), .one [.f (.int .i64 k), .f (.int .i64 n), .f (.int .i64 r), .slc 0 0 m c nn], .rows false 1 ((encI k n r (ms.take p.1)).map fun b => [.int .u8 b])]) (fun p => m - p.1) [2]
    (At.mk' [1, 4, 25, 26, 27] (0, true) (by simp) ⟨rfl, rfl⟩ ?_ rfl (by simp) (by simp) (by simp)) ?_
  · show [_, _, PO.rows false 1 [[FC.int .u8 (IntKind.u8.wrap (IntKind.i64.wrap (k - 1)))], [FC.int .u8 (IntKind.u8.wrap (IntKind.i64.wrap (n - 1)))], [FC.int .u8 (IntKind.u8.wrap r)]]] = _
    rw [w1, w2, w3]
    rfl
  rintro ⟨i, b⟩ hi
  change i ≤ m at hi
  refine S_r ?_
  refine brc_intro (fun hlt => ?_) (fun hlt => ?_)
  · have hlt : i < m := by
      have := of_decide_eq_true hlt
      have : (i : Int) < (m : Int) := this
      omega
    obtain ⟨x, hx⟩ : ∃ x, ms[i]? = some x := ⟨_, List.getElem?_eq_getElem (by omega)⟩
    obtain ⟨x0, x1⟩ := hms x (List.mem_of_getElem? hx)
    have hs := encI_succ k n r hx
    have hl := encI_len k n r (ms.take i)
    rw [List.length_take] at hl
    have wr : IntKind.i64.wrap ((i : Int) + 1) = ((i + 1 : Nat) : Int) := wrap_i64 _ (by omega) (by omega)
    have wm : IntKind.u8.wrap (IntKind.i64.wrap (x.th + 224)) = x.th + 224 := by rw [wrap_i64 _ (by omega) (by omega), wrap_u8 _ (by omega) (by omega)]
    have wn : IntKind.u8.wrap x.th = x.th := wrap_u8 _ (by omega) (by omega)
    refine SS.inlR ?_
    refine at2 (a := (0 : Int) ≤ (i : Int)) (b := (i : Int) < (m : Int)) (by omega) (by omega) (rdA (rowMove x) (by simp [hx]) ?_)
    refine brc_intro (fun hp => ?_) (fun hp => ?_)
    · have hp : x.pk = true := hp
      have he : encM x = x.th + 224 := by rw [encM, if_pos hp]
      refine And.intro (by simp) (Or.inl (And.intro rfl (And.intro (by simp [hl]; omega) (And.intro ?_ (And.intro ?_ ?_)))))
      · show (3 + i + 1) * 1 ≤ 140737488355328
        omega
      · show 3 + i + 1 ≤ 9223372036854775807
        omega
      · refine At.mk' [1, 4, 25, 26, 27] (i + 1, b) ⟨by show i + 1 ≤ m; omega, by show m - (i + 1) < m - i; omega⟩ ⟨?_, rfl⟩ ?_ rfl (by simp) (by simp) (by decide)
        · rw [wr]
          rfl
        · show [_, _, PO.rows false 1 (_ ++ [[FC.int .u8 (IntKind.u8.wrap (IntKind.i64.wrap (x.th + 224)))]])] = _
          rw [wm, hs, List.map_append, he]
          rfl
    · have hp : x.pk = false := hp
      have he : encM x = x.th := by rw [encM, hp]; simp
      refine And.intro (by simp) (Or.inl (And.intro rfl (And.intro (by simp [hl]; omega) (And.intro ?_ (And.intro ?_ ?_)))))
      · show (3 + i + 1) * 1 ≤ 140737488355328
        omega
      · show 3 + i + 1 ≤ 9223372036854775807
        omega
      · refine At.mk' [1, 4, 25, 26, 27] (i + 1, b) ⟨by show i + 1 ≤ m; omega, by show m - (i + 1) < m - i; omega⟩ ⟨?_, rfl⟩ ?_ rfl (by simp) (by simp) (by decide)
        · rw [wr]
          rfl
        · show [_, _, PO.rows false 1 (_ ++ [[FC.int .u8 (IntKind.u8.wrap x.th)]])] = _
          rw [wn, hs, List.map_append, he]
          rfl
  · have hlt : ¬ (i : Int) < (m : Int) := of_decide_eq_false hlt
    obtain rfl : i = m := by omega
    rw [show ms.take i = ms from List.take_of_length_le (by omega)]
    have hl := encI_len k n r ms
    have e : List.take (3 + i) (List.drop 0 ((encI k n r ms).map fun b => [FC.int .u8 b])) = (encI k n r ms).map fun b => [FC.int .u8 b] := by rw [List.drop_zero, List.take_of_length_le (by simp [hl]; omega)]
    refine And.intro (by simp [hl]; omega) ?_
    rw [e]
    refine And.intro (fun y hy => ?_) ?_
    · obtain ⟨b, _, rfl⟩ := List.mem_map.1 hy
      exact ⟨b, rfl⟩
    · have e2 : ((encI k n r ms).map fun b => [FC.int .u8 b]).map byteOf = encT k n r ms := by rw [List.map_map]; rfl
      rw [e2]
      exact h

/-- Whether a script may be, whatever it is. -/
theorem rightS {k n r : Int} {ms : List MoveZ} {m : Nat} {ro nn : Bool} {c : Option Nat} (hm : ms.length = m) (hb : m ≤ 100000) (h1 : scrB k n r ms → K (bl true) [] [.rows ro 2 (ms.map rowMove)]) (h0 : K (bl false) [] [.rows ro 2 (ms.map rowMove)]) :
    Does Try.prog 16 [.p (.agg [.f (.int .i64 k), .f (.int .i64 n), .f (.int .i64 r), .slc 0 0 m c nn])] [.rows ro 2 (ms.map rowMove)] K := by
  refine does Try.func16 rfl (by decide) ?_
  refine SS.loop (fun i : Nat => i ≤ m ∧ ∀ x ∈ ms.take i, 0 ≤ x.th ∧ x.th < n) (fun i => [(1, cv (.ptr 1 0)), (6, cv (.slc 0 0 m c nn)), (7, i64 m), (8, i64 i)])
    (fun _ => [.rows ro 2 (ms.map rowMove), .one [.f (.int .i64 k), .f (.int .i64 n), .f (.int .i64 r), .slc 0 0 m c nn]]) (fun i => m - i) []
    (At.mk' [1, 6, 7, 8] 0 ⟨Nat.zero_le _, by simp⟩ ⟨rfl, rfl⟩ rfl rfl (by simp) (by simp) (by simp)) ?_
  rintro i ⟨hi, hall⟩
  refine S_r ?_
  refine brc_intro (fun hlt => ?_) (fun hlt => ?_)
  · have hlt : i < m := by
      have := of_decide_eq_true hlt
      have : (i : Int) < (m : Int) := this
      omega
    obtain ⟨x, hx⟩ : ∃ x, ms[i]? = some x := ⟨_, List.getElem?_eq_getElem (by omega)⟩
    refine SS.inlR ?_
    refine at2 (a := (0 : Int) ≤ (i : Int)) (b := (i : Int) < (m : Int)) (by omega) (by omega) (rdA (rowMove x) (by simp [hx]) ?_)
    refine brc_intro (fun _ => h0) (fun h8 => ?_)
    have h8 : ¬ x.th < 0 := of_decide_eq_false h8
    refine brc_intro (fun _ => h0) (fun h9 => ?_)
    have h9 : ¬ x.th ≥ n := of_decide_eq_false h9
    refine At.mk' [1, 6, 7, 8] (i + 1) ⟨⟨hlt, fun y hy => ?_⟩, by omega⟩ ⟨?_, rfl⟩ rfl rfl (by simp) (by simp) (by simp)
    · rw [List.take_add_one, hx] at hy
      rcases List.mem_append.1 hy with hy | hy
      · exact hall y hy
      · have : y = x := by simpa using hy
        subst this
        omega
    · rw [wrap_i64 (i + 1) (by omega) (by omega)]
      rfl
  · have hlt : ¬ (i : Int) < (m : Int) := of_decide_eq_false hlt
    obtain rfl : i = m := by omega
    rw [List.take_of_length_le (by omega)] at hall
    refine brc_intro (fun a1 => ?_) (fun _ => h0)
    have a1 : k ≥ 1 := of_decide_eq_true a1
    refine brc_intro (fun a2 => ?_) (fun _ => h0)
    have a2 : k < 7 := of_decide_eq_true a2
    refine brc_intro (fun a3 => ?_) (fun _ => h0)
    have a3 : n ≥ 1 := of_decide_eq_true a3
    refine brc_intro (fun a4 => ?_) (fun _ => h0)
    have a4 : n ≤ 8 := of_decide_eq_true a4
    refine brc_intro (fun a5 => ?_) (fun _ => h0)
    have a5 : r ≥ 0 := of_decide_eq_true a5
    by_cases a6 : r ≤ 5
    · have h' : K (bl (decide (r ≤ 5))) [] [.rows ro 2 (ms.map rowMove)] := by
        rw [decide_eq_true a6]
        exact h1 ⟨⟨a1, by omega⟩, ⟨a3, a4⟩, ⟨a5, a6⟩, hall⟩
      exact h'
    · have h' : K (bl (decide (r ≤ 5))) [] [.rows ro 2 (ms.map rowMove)] := by
        rw [decide_eq_false a6]
        exact h0
      exact h'

end
end Go.Mac
