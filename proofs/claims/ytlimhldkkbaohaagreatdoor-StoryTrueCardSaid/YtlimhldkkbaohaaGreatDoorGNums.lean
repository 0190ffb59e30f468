/- Texts that belong together; the first of them: Numerals: what is written is read. -/
import Derived.Lib.AtoiAll
import Derived.Lib.ItoaNum
import Derived.Lib.Bytealg

/- Numerals: what is written is read. -/
section
namespace Go.Mac
open Go

/-- One digit more. -/
theorem parse_snoc (d : UInt8) (hd : 48 ≤ d.toNat ∧ d.toNat ≤ 57) : ∀ (l : List UInt8) (acc m : Nat), Lib.parseUint10 acc l = .ok m → m * 10 + (d.toNat - 48) < 18446744073709551616 → Lib.parseUint10 acc (l ++ [d]) = .ok (m * 10 + (d.toNat - 48))
  | [], acc, m, h, hm => by
    simp only [Lib.parseUint10] at h
    injection h with h
    subst h
    show Lib.parseUint10 acc [d] = _
    simp only [Lib.parseUint10]
    rw [if_pos hd, if_neg (by omega), if_neg (by omega)]
  | c :: r, acc, m, h, hm => by
    simp only [List.cons_append, Lib.parseUint10] at h ⊢
    split at h
    · rename_i hc
      rw [if_pos hc]
      split at h
      · cases h
      · rename_i h1
        rw [if_neg h1]
        split at h
        · cases h
        · rename_i h2
          rw [if_neg h2]
          exact parse_snoc d hd r _ m h hm
    · cases h

theorem dig_toNat (k : Nat) (hk : k < 10) : (UInt8.ofNat (48 + k)).toNat = 48 + k := by
  rw [UInt8.toNat_ofNat']
  omega

theorem decDigits_dig : ∀ (n u : Nat), u < n → ∀ b ∈ Lib.decDigits u, 48 ≤ b.toNat ∧ b.toNat ≤ 57
  | 0, u, h => absurd h (by omega)
  | n + 1, u, h => fun b hb => by
    rw [Lib.decDigits] at hb
    split at hb
    · rename_i hu
      obtain rfl := List.mem_singleton.1 hb
      rw [dig_toNat _ hu]; omega
    · rename_i hu
      rcases List.mem_append.1 hb with hb | hb
      · exact decDigits_dig n (u / 10) (by omega) b hb
      · obtain rfl := List.mem_singleton.1 hb
        rw [dig_toNat _ (by omega)]; omega

theorem decDigits_ne (u : Nat) : Lib.decDigits u ≠ [] := by
  rw [Lib.decDigits]
  split <;> simp

theorem parse_dec : ∀ (n u : Nat), u < n → u < 18446744073709551616 → Lib.parseUint10 0 (Lib.decDigits u) = .ok u
  | 0, u, h, _ => absurd h (by omega)
  | n + 1, u, h, hu => by
    rw [Lib.decDigits]
    split
    · rename_i h10
      have hd := dig_toNat u h10
      show Lib.parseUint10 0 ([] ++ [UInt8.ofNat (48 + u)]) = _
      rw [parse_snoc _ (by omega) [] 0 0 rfl (by omega), hd]
      congr 1; omega
    · rename_i h10
      have hd := dig_toNat (u % 10) (by omega)
      rw [parse_snoc _ (by omega) _ 0 (u / 10) (parse_dec n (u / 10) (by omega) (by omega)) (by omega), hd]
      congr 1; omega

theorem parseMag_dec (u : Nat) (hu : u < 18446744073709551616) : Lib.parseMag (Lib.decDigits u) = .ok u := by
  rw [Lib.parseMag, if_neg (decDigits_ne u)]
  exact parse_dec (u + 1) u (by omega) hu

/-- WHAT IS WRITTEN IS READ. -/
theorem atoi_itoa (n : Int) (h0 : -9223372036854775808 ≤ n) (h1 : n ≤ 9223372036854775807) : Lib.atoiAll (Lib.itoa n) = .ok n := by
  unfold Lib.itoa
  split
  · rename_i hn
    unfold Lib.atoiAll
    dsimp only
    rw [if_pos (.inr (by decide)), parseMag_dec _ (by omega)]
    dsimp only
    rw [if_neg (fun h => h.1 (by decide)), if_neg (fun h => by have := h.2; omega), if_pos (by decide)]
    congr 1; omega
  · rename_i hn
    obtain ⟨c, r, hcr⟩ : ∃ c r, Lib.decDigits n.toNat = c :: r := by
      cases h : Lib.decDigits n.toNat with
      | nil => exact absurd h (decDigits_ne _)
      | cons c r => exact ⟨c, r, rfl⟩
    have hc := decDigits_dig (n.toNat + 1) n.toNat (by omega) c (by rw [hcr]; simp)
    have hm := parseMag_dec n.toNat (by omega)
    rw [hcr] at hm ⊢
    unfold Lib.atoiAll
    dsimp only
    rw [if_neg (by omega), hm]
    dsimp only
    rw [if_neg (by omega), if_neg (by omega), if_neg (by omega)]
    congr 1; omega

theorem atoi_range {l : List UInt8} {v : Int} (h : Lib.atoiAll l = .ok v) : -9223372036854775808 ≤ v ∧ v ≤ 9223372036854775807 := by
  unfold Lib.atoiAll at h
  split at h
  · cases h
  · dsimp only at h
    split at h
    · cases h
    · cases h
    · rename_i u _
      split at h
      · cases h
      · split at h
        · cases h
        · injection h with h
          subst h
          split <;> omega

/-- What an Itoa writes is neither blank nor a line's end. -/
theorem itoa_plain (n : Int) : ∀ b ∈ Lib.itoa n, b ≠ 32 ∧ b ≠ 10 := by
  have key : ∀ u : Nat, ∀ b ∈ Lib.decDigits u, b ≠ 32 ∧ b ≠ 10 := fun u b hb => by
    have := decDigits_dig (u + 1) u (by omega) b hb
    exact ⟨fun e => by subst e; exact absurd this.1 (by decide), fun e => by subst e; exact absurd this.1 (by decide)⟩
  intro b hb
  unfold Lib.itoa at hb
  split at hb
  · rcases List.mem_cons.1 hb with rfl | hb
    · decide
    · exact key _ b hb
  · exact key _ b hb

theorem itoa_ne (n : Int) : Lib.itoa n ≠ [] := by
  unfold Lib.itoa
  split
  · simp
  · exact decDigits_ne _

/-- A numeral, and of which number it is just the one. -/
def tokV (t : List UInt8) : Option Int :=
  match Lib.atoiAll t with
  | .ok v => if Lib.itoa v = t then some v else none
  | _ => none

theorem tok_itoa {n : Int} (h0 : -9223372036854775808 ≤ n) (h1 : n ≤ 9223372036854775807) : tokV (Lib.itoa n) = some n := by
  rw [tokV, atoi_itoa n h0 h1]
  exact if_pos rfl

theorem tok_back {t : List UInt8} {v : Int} (h : tokV t = some v) : Lib.itoa v = t ∧ -9223372036854775808 ≤ v ∧ v ≤ 9223372036854775807 := by
  unfold tokV at h
  split at h
  · rename_i u hu
    split at h
    · rename_i hi
      obtain rfl := Option.some.inj h
      exact ⟨hi, atoi_range hu⟩
    · cases h
  · cases h

theorem decDigits_len : ∀ (k u : Nat), u < 10 ^ (k + 1) → (Lib.decDigits u).length ≤ k + 1
  | 0, u, h => by
    rw [Lib.decDigits, dif_pos (by simpa using h)]; simp
  | k + 1, u, h => by
    rw [Lib.decDigits]
    split
    · simp
    · rw [List.length_append]
      have := decDigits_len k (u / 10) (by rw [Nat.pow_succ] at h; omega)
      simp; omega

theorem itoa_len {n : Int} (h0 : -9223372036854775808 ≤ n) (h1 : n ≤ 9223372036854775807) : (Lib.itoa n).length ≤ 20 := by
  unfold Lib.itoa
  split
  · have := decDigits_len 18 n.natAbs (by rw [show (10 : Nat) ^ (18 + 1) = 10000000000000000000 from rfl]; omega)
    simp; omega
  · have := decDigits_len 18 n.toNat (by rw [show (10 : Nat) ^ (18 + 1) = 10000000000000000000 from rfl]; omega)
    omega

end Go.Mac
end

/- Texts cut at a byte, and put together. -/
section
namespace Go.Mac
open Go

/-- A text's parts. -/
def splitB (c : UInt8) : List UInt8 → List (List UInt8)
  | [] => [[]]
  | b :: s => if b = c then [] :: splitB c s else match splitB c s with
    | p :: ps => (b :: p) :: ps
    | [] => [[b]]

def joinB (c : UInt8) : List (List UInt8) → List UInt8
  | [] => []
  | [p] => p
  | p :: q :: ps => p ++ c :: joinB c (q :: ps)

theorem split_ne (c : UInt8) : ∀ s, splitB c s ≠ []
  | [] => by simp [splitB]
  | b :: s => by
    unfold splitB
    split
    · simp
    · split <;> simp

theorem joinB_cons {c : UInt8} {p : List UInt8} {ps : List (List UInt8)} (h : ps ≠ []) : joinB c (p :: ps) = p ++ c :: joinB c ps := by
  cases ps with
  | nil => exact absurd rfl h
  | cons q qs => rfl

theorem joinB_one {c : UInt8} {p : List UInt8} : joinB c [p] = p := rfl

theorem join_split (c : UInt8) : ∀ s, joinB c (splitB c s) = s
  | [] => rfl
  | b :: s => by
    have ih := join_split c s
    have hne := split_ne c s
    unfold splitB
    split
    · rename_i hb
      rw [joinB_cons hne, ih, hb]
      rfl
    · split
      · rename_i p ps hp
        rw [hp] at ih
        cases ps with
        | nil => rw [joinB_one] at ih ⊢; rw [ih]
        | cons q qs =>
          rw [joinB_cons (by simp)] at ih ⊢
          rw [List.cons_append, ih]
      · rename_i hp
        exact absurd hp hne

theorem split_free (c : UInt8) : ∀ s, ∀ p ∈ splitB c s, c ∉ p
  | [], p, hp => by
    rw [splitB, List.mem_singleton] at hp
    subst hp; simp
  | b :: s, p, hp => by
    have ih := split_free c s
    unfold splitB at hp
    split at hp
    · rcases List.mem_cons.1 hp with rfl | hp
      · simp
      · exact ih p hp
    · rename_i hb
      split at hp
      · rename_i q qs hq
        rw [hq] at ih
        rcases List.mem_cons.1 hp with rfl | hp
        · intro hm
          rcases List.mem_cons.1 hm with e | hm
          · exact hb e.symm
          · exact ih q (by simp) hm
        · exact ih p (by simp [hp])
      · rename_i hq
        exact absurd hq (split_ne c s)

theorem split_mem_len {c : UInt8} : ∀ (s p : List UInt8), p ∈ splitB c s → p.length ≤ s.length
  | [], p, hp => by
    rw [splitB, List.mem_singleton] at hp
    subst hp; simp
  | b :: s, p, hp => by
    have ih := split_mem_len (c := c) s
    unfold splitB at hp
    split at hp
    · rcases List.mem_cons.1 hp with rfl | hp
      · simp
      · have := ih p hp
        simp; omega
    · split at hp
      · rename_i q qs hq
        rw [hq] at ih
        rcases List.mem_cons.1 hp with rfl | hp
        · have := ih q (by simp)
          simp; omega
        · have := ih p (by simp [hp])
          simp; omega
      · rw [List.mem_singleton] at hp
        subst hp
        simp

theorem split_app {c : UInt8} {r : List UInt8} : ∀ {p : List UInt8}, c ∉ p → splitB c (p ++ c :: r) = p :: splitB c r
  | [], _ => by
    rw [List.nil_append, splitB, if_pos rfl]
  | b :: p, h => by
    simp only [List.mem_cons, not_or] at h
    rw [List.cons_append, splitB, if_neg (fun e => h.1 e.symm), split_app h.2]

theorem split_one {c : UInt8} : ∀ {p : List UInt8}, c ∉ p → splitB c p = [p]
  | [], _ => rfl
  | b :: p, h => by
    simp only [List.mem_cons, not_or] at h
    rw [splitB, if_neg (fun e => h.1 e.symm), split_one h.2]

theorem split_join {c : UInt8} : ∀ {ps : List (List UInt8)}, ps ≠ [] → (∀ p ∈ ps, c ∉ p) → splitB c (joinB c ps) = ps
  | [], h, _ => absurd rfl h
  | [p], _, h => split_one (h p (by simp))
  | p :: q :: ps, _, h => by
    rw [joinB_cons (by simp), split_app (h p (by simp)), split_join (by simp) (fun x hx => h x (by simp [hx]))]

theorem count_free {c : UInt8} {p : List UInt8} (h : c ∉ p) : Lib.countByte p c = 0 := List.count_eq_zero.2 h

theorem count_join {c : UInt8} : ∀ {ps : List (List UInt8)}, ps ≠ [] → (∀ p ∈ ps, c ∉ p) → Lib.countByte (joinB c ps) c + 1 = ps.length
  | [], h, _ => absurd rfl h
  | [p], _, h => by rw [joinB_one, count_free (h p (by simp))]; rfl
  | p :: q :: ps, _, h => by
    have ih := count_join (c := c) (ps := q :: ps) (by simp) (fun x hx => h x (by simp [hx]))
    have h0 := count_free (h p (by simp))
    rw [joinB_cons (by simp)]
    unfold Lib.countByte at ih h0 ⊢
    rw [List.count_append, h0, List.count_cons_self]
    simp only [List.length_cons] at ih ⊢
    omega

theorem split_len (c : UInt8) (s : List UInt8) : (splitB c s).length = Lib.countByte s c + 1 := by
  rw [← count_join (split_ne c s) (split_free c s), join_split]

theorem index_app {c : UInt8} {r : List UInt8} : ∀ {p : List UInt8}, c ∉ p → Lib.indexByte (p ++ c :: r) c = p.length
  | [], _ => by
    show Lib.indexByte (c :: r) c = _
    rw [Lib.indexByte, if_pos (by simp)]
    rfl
  | b :: p, h => by
    simp only [List.mem_cons, not_or] at h
    rw [List.cons_append, Lib.indexByte, if_neg (by simpa using fun e : b = c => h.1 e.symm), index_app h.2, if_neg (by simp)]
    simp

theorem index_free {c : UInt8} : ∀ {p : List UInt8}, c ∉ p → Lib.indexByte p c = -1
  | [], _ => rfl
  | b :: p, h => by
    simp only [List.mem_cons, not_or] at h
    rw [Lib.indexByte, if_neg (by simpa using fun e : b = c => h.1 e.symm), index_free h.2]
    rfl

/-- Cut at the first one. -/
def cutB (c : UInt8) : List UInt8 → Option (List UInt8 × List UInt8)
  | [] => none
  | b :: s => if b = c then some ([], s) else (cutB c s).map fun x => (b :: x.1, x.2)

theorem cut_some {c : UInt8} : ∀ {s p r : List UInt8}, cutB c s = some (p, r) → s = p ++ c :: r ∧ c ∉ p
  | [], _, _, h => by cases h
  | b :: s, p, r, h => by
    unfold cutB at h
    split at h
    · rename_i hb
      cases h
      exact ⟨by rw [hb]; rfl, by simp⟩
    · rename_i hb
      rw [Option.map_eq_some_iff] at h
      obtain ⟨⟨p', r'⟩, h1, h2⟩ := h
      cases h2
      obtain ⟨h3, h4⟩ := cut_some h1
      refine ⟨by rw [h3]; rfl, fun hm => ?_⟩
      rcases List.mem_cons.1 hm with e | hm
      · exact hb e.symm
      · exact h4 hm

theorem cut_none {c : UInt8} : ∀ {s : List UInt8}, cutB c s = none → c ∉ s
  | [], _ => by simp
  | b :: s, h => by
    unfold cutB at h
    split at h
    · cases h
    · rename_i hb
      rw [Option.map_eq_none_iff] at h
      intro hm
      rcases List.mem_cons.1 hm with e | hm
      · exact hb e.symm
      · exact cut_none h hm

theorem cut_app {c : UInt8} {r : List UInt8} : ∀ {p : List UInt8}, c ∉ p → cutB c (p ++ c :: r) = some (p, r)
  | [], _ => if_pos rfl
  | b :: p, h => by
    simp only [List.mem_cons, not_or] at h
    rw [List.cons_append, cutB, if_neg (fun e => h.1 e.symm), cut_app h.2]
    rfl

end Go.Mac
end
