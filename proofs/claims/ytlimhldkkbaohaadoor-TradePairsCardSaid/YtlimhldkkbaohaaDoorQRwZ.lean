/- Threads that look, or change: what holds of the machine, whoever goes on when. -/
import Derived.Test.YtlimhldkkbaohaaDoorQWay
import Derived.Test.YtlimhldkkbaohaaDoorQSemaE
import Derived.Test.YtlimhldkkbaohaaDoorGBase
open Go Go.Proofs Go.Mac
set_option maxRecDepth 100000
namespace Go.Mac

abbrev lookB : List InsZ := [⟨6, 1, 0, 0, 0⟩, ⟨5, 2, 1, 32, 1⟩, ⟨11, 2, 1, 7, 0⟩, ⟨3, 4, 1, 1, 0⟩, ⟨9, 3, 0, 1, 4⟩, ⟨11, 3, 0, 0, 0⟩, ⟨10, 9, 0, 0, 0⟩, ⟨14, 0, 1, 0, 0⟩, ⟨10, 0, 0, 0, 0⟩, ⟨16, 3, 4, 0, 0⟩,
  ⟨8, 1, 0, -1, 0⟩, ⟨3, 1, 1, -1, 0⟩, ⟨15, 0, 16, -1, 0⟩, ⟨16, 3, 1, 0, 0⟩]
abbrev ownB : List InsZ := [⟨6, 1, 0, 0, 0⟩, ⟨11, 1, 0, 4, 0⟩, ⟨14, 0, 1, 0, 0⟩, ⟨10, 0, 0, 0, 0⟩, ⟨1, 4, 4294967296, 0, 0⟩, ⟨9, 3, 0, 1, 4⟩, ⟨11, 3, 0, 0, 0⟩, ⟨16, 3, 1, 0, 0⟩,
  ⟨1, 1, 0, 0, 0⟩, ⟨7, 0, 1, -1, 0⟩, ⟨15, 0, 16, -1, 0⟩, ⟨16, 3, 1, 0, 0⟩]

/-- Two calls' body; true: it changes. -/
def rwB : Bool → List InsZ
  | true => ownB
  | false => lookB

/-- A word that the cell may have. -/
def rwV (x : Int) : Prop := (0 ≤ x ∧ x ≤ 8) ∨ x = 4294967296

def rwOk (b : Bool) (o : Nat) (r1 r2 r3 r4 : Int) : Prop :=
  match b with
  | false => o < 14 ∧ (1 ≤ o → o ≤ 9 → rwV r1) ∧ (o = 2 → r2 = if r1 = 4294967296 then 1 else 0) ∧ (o = 3 ∨ o = 4 → r1 ≠ 4294967296) ∧ (o = 4 → r4 = r1 + 1) ∧ (o = 5 → r3 = 0 ∨ r3 = 1) ∧ (o = 7 → r1 = 4294967296)
  | true => o < 12 ∧ (1 ≤ o → o ≤ 7 → rwV r1) ∧ (o = 2 → r1 ≠ 0) ∧ (o = 4 ∨ o = 5 → r1 = 0) ∧ (o = 5 → r4 = 4294967296) ∧ (o = 6 → r3 = 0 ∨ r3 = 1) ∧ (o = 9 → r1 = 0)

def RwG (l : List Bool) (g : GZ) : Prop :=
  ∃ r1 r2 r3 r4 : Int, g.y.rg = [0, r1, r2, r3, r4, 0, 0, 0] ∧ (g.y.dn = true ∧ g.j = l.length ∨ g.y.dn = false ∧ ((∃ b, l[g.j]? = some b ∧ rwOk b g.y.pc r1 r2 r3 r4) ∨ g.j = l.length ∧ g.y.pc = 0))

def rlkN (c : Option Bool) (o : Nat) (r3 : Int) : Nat :=
  match c with
  | some false => if (o = 5 ∧ r3 = 1) ∨ o = 6 ∨ o = 9 ∨ o = 10 then 1 else 0
  | _ => 0
def rowN (c : Option Bool) (o : Nat) (r3 : Int) : Nat :=
  match c with
  | some true => if (o = 6 ∧ r3 = 1) ∨ o = 7 ∨ o = 8 ∨ o = 9 then 1 else 0
  | _ => 0
def rwkN (c : Option Bool) (o : Nat) : Nat :=
  match c with
  | some false => if o = 11 ∨ o = 12 then 1 else 0
  | some true => if o = 10 then 1 else 0
  | none => 0
def rlpN (v : Int) (c : Option Bool) (o : Nat) (r1 r3 : Int) : Nat :=
  match c with
  | none => 0
  | some false => match o with
    | 0 => 156
    | 1 => if r1 = v then 155 else 161
    | 2 => if r1 = v then 154 else 160
    | 3 => if r1 = v then 153 else 159
    | 4 => if r1 = v then 152 else 158
    | 5 => if r3 = 0 then 157 else 103
    | 6 => 102
    | 7 => if r1 = v then 152 else 158
    | 8 => 157
    | 9 => 101
    | 10 => 100
    | 11 => 51
    | 12 => 50
    | _ => 1
  | some true => match o with
    | 0 => 156
    | 1 => if r1 = v then 155 else 161
    | 2 => if r1 = v then 152 else 158
    | 3 => 157
    | 4 => if r1 = v then 153 else 159
    | 5 => if r1 = v then 152 else 158
    | 6 => if r3 = 0 then 157 else 102
    | 7 => 101
    | 8 => 100
    | 9 => 99
    | 10 => 50
    | _ => 1

/-- Who looks; who owns; who is about to wake; what is left to do. -/
def rlk (l : List Bool) (g : GZ) : Nat := rlkN l[g.j]? g.y.pc (rgZ g.y.rg 3)
def row (l : List Bool) (g : GZ) : Nat := rowN l[g.j]? g.y.pc (rgZ g.y.rg 3)
def rwk (l : List Bool) (g : GZ) : Nat := rwkN l[g.j]? g.y.pc
def rlp (v : Int) (l : List Bool) (g : GZ) : Nat := if g.y.dn = true then 0 else 156 * (l.length - (g.j + 1)) + rlpN v l[g.j]? g.y.pc (rgZ g.y.rg 1) (rgZ g.y.rg 3) + 1

theorem rlpN_mono (v w : Int) (c : Option Bool) (o : Nat) (r1 r3 : Int) : rlpN w c o r1 r3 ≤ rlpN v c o r1 r3 + 6 := by
  unfold rlpN
  split
  · omega
  · split <;> (repeat' split) <;> omega
  · split <;> (repeat' split) <;> omega

theorem rlp_mono {v w : Int} {d : Nat} (h : w = v ∨ d = 6) (l : List Bool) (g : GZ) : rlp w l g ≤ rlp v l g + d := by
  rcases h with rfl | rfl
  · omega
  · unfold rlp
    have := rlpN_mono v w l[g.j]? g.y.pc (rgZ g.y.rg 1) (rgZ g.y.rg 3)
    split <;> omega

theorem rlk_at {l : List Bool} {j : Nat} {b : Bool} (h : l[j]? = some b) (o : Nat) (r : List Int) (d : Bool) : rlk l ⟨j, ⟨o, r, d⟩⟩ = rlkN (some b) o (rgZ r 3) := by rw [rlk, h]
theorem row_at {l : List Bool} {j : Nat} {b : Bool} (h : l[j]? = some b) (o : Nat) (r : List Int) (d : Bool) : row l ⟨j, ⟨o, r, d⟩⟩ = rowN (some b) o (rgZ r 3) := by rw [row, h]
theorem rwk_at {l : List Bool} {j : Nat} {b : Bool} (h : l[j]? = some b) (o : Nat) (r : List Int) (d : Bool) : rwk l ⟨j, ⟨o, r, d⟩⟩ = rwkN (some b) o := by rw [rwk, h]
theorem rlp_at {v : Int} {l : List Bool} {j : Nat} {b : Bool} (h : l[j]? = some b) (o : Nat) (r : List Int) : rlp v l ⟨j, ⟨o, r, false⟩⟩ = 156 * (l.length - (j + 1)) + rlpN v (some b) o (rgZ r 1) (rgZ r 3) + 1 := by rw [rlp, h]; rfl

theorem rlk_0 (l : List Bool) (j : Nat) (r : List Int) : rlk l ⟨j, ⟨0, r, false⟩⟩ = 0 := by
  rw [rlk]
  cases h : l[j]? with
  | none => rfl
  | some b => cases b <;> rfl
theorem row_0 (l : List Bool) (j : Nat) (r : List Int) : row l ⟨j, ⟨0, r, false⟩⟩ = 0 := by
  rw [row]
  cases h : l[j]? with
  | none => rfl
  | some b => cases b <;> rfl
theorem rlp_0 (v : Int) (l : List Bool) (j : Nat) (r : List Int) : rlp v l ⟨j, ⟨0, r, false⟩⟩ ≤ 156 * (l.length - j) + 1 := by
  cases h : l[j]? with
  | none =>
    rw [rlp, h]
    have := List.getElem?_eq_none_iff.1 h
    show 156 * (l.length - (j + 1)) + 0 + 1 ≤ _
    omega
  | some b =>
    have := (List.getElem?_eq_some_iff.1 h).1
    rw [rlp_at h]
    cases b <;> simp only [rlpN] <;> omega

/-- What a step of a thread comes to. -/
inductive RwOut (l : List Bool) (g : GZ) (v : Int) (g' : GZ) (v' : Int) (e : EffW) : Prop
  | quiet (hv : v' = v) (he : e = .no ∨ (∃ a x, e = .say a x) ∨ ∃ o, e = .act o 0 v v ∧ (o = 6 ∨ o = 9)) (hl : rlk l g' = rlk l g) (ho : row l g' = row l g) (hw : rwk l g ≤ rwk l g') (hp : rlp v l g' + 1 ≤ rlp v l g)
  | sleep (hv : v' = v) (h0 : v ≠ 0) (he : e = .sleep 0) (hl : rlk l g' = rlk l g) (ho : row l g' = row l g) (hs : (l[g'.j]? = some false ∧ g'.y.pc = 8 ∨ l[g'.j]? = some true ∧ g'.y.pc = 3) ∧ g'.y.dn = false) (hp : rlp v l g' ≤ rlp v l g + 5)
  | wake (hv : v' = v) (he : e = .wake 0 16) (hl : rlk l g' = rlk l g) (ho : row l g' = row l g) (hp : rlp v l g' + 49 ≤ rlp v l g)
  | look (hv : v' = v + 1) (h8 : 0 ≤ v ∧ v ≤ 8) (he : e = .act 9 0 v v') (hl : rlk l g = 0 ∧ rlk l g' = 1) (ho : row l g' = row l g) (hp : rlp v' l g' + 49 ≤ rlp v l g)
  | own (hv : v = 0) (hv' : v' = 4294967296) (he : e = .act 9 0 v v') (hl : rlk l g' = rlk l g) (ho : row l g = 0 ∧ row l g' = 1) (hp : rlp v' l g' + 49 ≤ rlp v l g)
  | unlook (hv : 1 ≤ v → v ≤ 8 → v' = v - 1) (he : e = .act 8 0 v v') (hl : rlk l g = 1 ∧ rlk l g' = 0) (ho : row l g' = row l g) (hw : rwk l g' = 1) (hp : rlp v' l g' + 49 ≤ rlp v l g)
  | disown (hv : v' = 0) (he : e = .act 7 0 v v') (hl : rlk l g' = rlk l g) (ho : row l g = 1 ∧ row l g' = 0) (hw : rwk l g' = 1) (hp : rlp v' l g' + 49 ≤ rlp v l g)

theorem rw_G {l : List Bool} {j : Nat} {b : Bool} (hb : l[j]? = some b) {o : Nat} {r1 r2 r3 r4 : Int} (h : rwOk b o r1 r2 r3 r4) : RwG l ⟨j, ⟨o, [0, r1, r2, r3, r4, 0, 0, 0], false⟩⟩ :=
  ⟨r1, r2, r3, r4, rfl, .inr ⟨rfl, .inl ⟨b, hb, h⟩⟩⟩

theorem rw_G0 {l : List Bool} {j : Nat} {b : Bool} (hb : l[j]? = some b) (r1 r2 r3 r4 : Int) : RwG l ⟨j + 1, ⟨0, [0, r1, r2, r3, r4, 0, 0, 0], false⟩⟩ := by
  have hlt := (List.getElem?_eq_some_iff.1 hb).1
  refine ⟨r1, r2, r3, r4, rfl, .inr ⟨rfl, ?_⟩⟩
  cases h : l[j + 1]? with
  | none => exact .inr ⟨by have := List.getElem?_eq_none_iff.1 h; show j + 1 = _; omega, rfl⟩
  | some c =>
    refine .inl ⟨c, by first | exact h | rfl, ?_⟩
    cases c <;> simp [rwOk]

theorem rw_bit {x : Int} (h : rwV x) : bitsZ x 32 1 = if x = 4294967296 then 1 else 0 := by
  rcases h with ⟨h0, h8⟩ | rfl
  · rcases (show x = 0 ∨ x = 1 ∨ x = 2 ∨ x = 3 ∨ x = 4 ∨ x = 5 ∨ x = 6 ∨ x = 7 ∨ x = 8 by omega) with rfl | rfl | rfl | rfl | rfl | rfl | rfl | rfl | rfl <;> decide
  · decide

theorem rw_local {l : List Bool} {g : GZ} {v : Int} (hv : rwV v) (h : RwG l g) (hd : g.y.dn = false) : ∃ g' v' e, LS 1 (l.map rwB) g [v] g' [v'] e ∧ RwG l g' ∧ RwOut l g v g' v' e := by
  obtain ⟨r1, r2, r3, r4, hrg, hcase⟩ := h
  obtain ⟨j, o, rg, dn⟩ := g
  dsimp only at hd hrg hcase
  subst hd hrg
  rcases hcase with ⟨h1, _⟩ | ⟨_, ⟨b, hb, hok⟩ | ⟨rfl, rfl⟩⟩
  · cases h1
  · cases b with
    | false =>
      obtain ⟨ho, k1, k2, k3, k4, k5, k7⟩ := hok
      have inn {o' : Nat} {r1' r2' r3' r4' v' : Int} {e : EffW} {i : InsZ} (hi : lookB[o]? = some i) (hc : cellK 1 i = true) (hn : nextW i ⟨o, [0, r1, r2, r3, r4, 0, 0, 0], false⟩ [v] = (⟨o', [0, r1', r2', r3', r4', 0, 0, 0], false⟩, [v'], e)) (h' : rwOk false o' r1' r2' r3' r4')
          (hout : RwOut l ⟨j, ⟨o, [0, r1, r2, r3, r4, 0, 0, 0], false⟩⟩ v ⟨j, ⟨o', [0, r1', r2', r3', r4', 0, 0, 0], false⟩⟩ v' e) : ∃ g' v' e, LS 1 (l.map rwB) ⟨j, ⟨o, [0, r1, r2, r3, r4, 0, 0, 0], false⟩⟩ [v] g' [v'] e ∧ RwG l g' ∧ RwOut l ⟨j, ⟨o, [0, r1, r2, r3, r4, 0, 0, 0], false⟩⟩ v g' v' e :=
        ⟨_, _, _, LS.inn hb hi (cellK_ok hc) hn h'.1, rw_G hb h', hout⟩
      rcases (show o = 0 ∨ o = 1 ∨ o = 2 ∨ o = 3 ∨ o = 4 ∨ o = 5 ∨ o = 6 ∨ o = 7 ∨ o = 8 ∨ o = 9 ∨ o = 10 ∨ o = 11 ∨ o = 12 ∨ o = 13 by omega) with rfl | rfl | rfl | rfl | rfl | rfl | rfl | rfl | rfl | rfl | rfl | rfl | rfl | rfl
      · refine inn (o' := 1) (r1' := v) rfl (by decide) rfl (by simp [rwOk, hv]) (.quiet rfl (.inr (.inr ⟨6, rfl, .inl rfl⟩)) ?_ ?_ ?_ ?_)
        all_goals try simp only [rlk_at hb, row_at hb, rwk_at hb, rlp_at hb]
        all_goals first | rfl | exact Nat.le_refl _ | exact Nat.zero_le _ | (simp [rlpN, rgZ]; done)
      · have k1 := k1 (by decide) (by decide)
        have e := rw_bit k1
        refine inn (o' := 2) (r2' := bitsZ r1 32 1) rfl (by decide) rfl (by simp [rwOk, k1, e]) (.quiet rfl (.inl rfl) ?_ ?_ ?_ ?_)
        all_goals try simp only [rlk_at hb, row_at hb, rwk_at hb, rlp_at hb]
        all_goals first | rfl | exact Nat.le_refl _ | exact Nat.zero_le _ | (simp [rlpN, rgZ]; (repeat' split) <;> omega)
      · have k1 := k1 (by decide) (by decide)
        have k2 := k2 rfl
        by_cases h1 : r1 = 4294967296
        · rw [if_pos h1] at k2
          subst k2
          refine inn (o' := 7) rfl (by decide) (nx_same rfl) (by simp [rwOk, rwV, h1]) (.quiet rfl (.inl rfl) ?_ ?_ ?_ ?_)
          all_goals try simp only [rlk_at hb, row_at hb, rwk_at hb, rlp_at hb]
          all_goals first | rfl | exact Nat.le_refl _ | exact Nat.zero_le _ | (simp [rlpN, rgZ]; (repeat' split) <;> omega)
        · rw [if_neg h1] at k2
          subst k2
          refine inn (o' := 3) rfl (by decide) (nx_same' (fun e => absurd (show (0 : Int) = 1 from e) (by decide))) (by simp [rwOk, k1, h1]) (.quiet rfl (.inl rfl) ?_ ?_ ?_ ?_)
          all_goals try simp only [rlk_at hb, row_at hb, rwk_at hb, rlp_at hb]
          all_goals first | rfl | exact Nat.le_refl _ | exact Nat.zero_le _ | (simp [rlpN, rgZ]; (repeat' split) <;> omega)
      · have k1 := k1 (by decide) (by decide)
        have k3 := k3 (.inl rfl)
        have e : u64m (r1 + u64m 1) = r1 + 1 := by
          rcases k1 with k1 | k1
          · exact wrap_u64 (r1 + 1) (by omega) (by omega)
          · exact absurd k1 k3
        refine inn (o' := 4) (r4' := u64m (r1 + u64m 1)) rfl (by decide) rfl (by simp [rwOk, k1, k3]; exact e) (.quiet rfl (.inl rfl) ?_ ?_ ?_ ?_)
        all_goals try simp only [rlk_at hb, row_at hb, rwk_at hb, rlp_at hb]
        all_goals first | rfl | exact Nat.le_refl _ | exact Nat.zero_le _ | (simp [rlpN, rgZ]; (repeat' split) <;> omega)
      · have k1 := k1 (by decide) (by decide)
        have k3 := k3 (.inr rfl)
        have k4 := k4 rfl
        by_cases h1 : v = r1
        · subst h1
          have h8 : 0 ≤ v ∧ v ≤ 8 := by
            rcases k1 with k1 | k1
            · exact k1
            · exact absurd k1 k3
          subst k4
          refine inn (o' := 5) (r3' := 1) (v' := v + 1) rfl (by decide) (nx_swap rfl) (by simp [rwOk, k1]) (.look rfl h8 rfl ?_ ?_ ?_)
          all_goals try simp only [rlk_at hb, row_at hb, rwk_at hb, rlp_at hb]
          all_goals first | rfl | exact Nat.le_refl _ | exact Nat.zero_le _ | exact ⟨rfl, rfl⟩ | (simp [rlpN, rgZ]; done)
        · refine inn (o' := 5) (r3' := 0) (v' := v) rfl (by decide) (nx_swap' h1) (by simp [rwOk, k1]) (.quiet rfl (.inr (.inr ⟨9, rfl, .inr rfl⟩)) ?_ ?_ ?_ ?_)
          all_goals try simp only [rlk_at hb, row_at hb, rwk_at hb, rlp_at hb]
          all_goals first | rfl | exact Nat.le_refl _ | exact Nat.zero_le _ | (simp [rlpN, rgZ, (show ¬ r1 = v from fun e => h1 e.symm)]; done)
      · have k1 := k1 (by decide) (by decide)
        rcases k5 rfl with rfl | rfl
        · refine inn (o' := 0) rfl (by decide) (nx_same rfl) (by simp [rwOk]) (.quiet rfl (.inl rfl) ?_ ?_ ?_ ?_)
          all_goals try simp only [rlk_at hb, row_at hb, rwk_at hb, rlp_at hb]
          all_goals first | rfl | exact Nat.le_refl _ | exact Nat.zero_le _ | (simp [rlpN, rgZ]; done)
        · refine inn (o' := 6) rfl (by decide) (nx_same' (fun e => absurd (show (1 : Int) = 0 from e) (by decide))) (by simp [rwOk, k1]) (.quiet rfl (.inl rfl) ?_ ?_ ?_ ?_)
          all_goals try simp only [rlk_at hb, row_at hb, rwk_at hb, rlp_at hb]
          all_goals first | rfl | exact Nat.le_refl _ | exact Nat.zero_le _ | (simp [rlpN, rgZ]; done)
      · have k1 := k1 (by decide) (by decide)
        refine inn (o' := 9) rfl (by decide) rfl (by simp [rwOk, k1]) (.quiet rfl (.inl rfl) ?_ ?_ ?_ ?_)
        all_goals try simp only [rlk_at hb, row_at hb, rwk_at hb, rlp_at hb]
        all_goals first | rfl | exact Nat.le_refl _ | exact Nat.zero_le _ | (simp [rlpN, rgZ]; done)
      · have k1 := k1 (by decide) (by decide)
        have k7 := k7 rfl
        by_cases h1 : v = r1
        · refine inn (o' := 8) rfl (by decide) (nx_wait h1) (by simp [rwOk, k1]) (.sleep rfl (by omega) rfl ?_ ?_ ⟨.inl ⟨hb, rfl⟩, rfl⟩ ?_)
          all_goals try simp only [rlk_at hb, row_at hb, rwk_at hb, rlp_at hb]
          all_goals first | rfl | exact Nat.le_refl _ | exact Nat.zero_le _ | (simp [rlpN, rgZ, h1]; done)
        · refine inn (o' := 8) rfl (by decide) (nx_wait' h1) (by simp [rwOk, k1]) (.quiet rfl (.inl rfl) ?_ ?_ ?_ ?_)
          all_goals try simp only [rlk_at hb, row_at hb, rwk_at hb, rlp_at hb]
          all_goals first | rfl | exact Nat.le_refl _ | exact Nat.zero_le _ | (simp [rlpN, rgZ, (show ¬ r1 = v from fun e => h1 e.symm)]; done)
      · have k1 := k1 (by decide) (by decide)
        refine inn (o' := 0) rfl (by decide) rfl (by simp [rwOk]) (.quiet rfl (.inl rfl) ?_ ?_ ?_ ?_)
        all_goals try simp only [rlk_at hb, row_at hb, rwk_at hb, rlp_at hb]
        all_goals first | rfl | exact Nat.le_refl _ | exact Nat.zero_le _ | (simp [rlpN, rgZ]; done)
      · refine inn (o' := 10) rfl (by decide) rfl (by simp [rwOk]) (.quiet rfl (.inr (.inl ⟨_, _, rfl⟩)) ?_ ?_ ?_ ?_)
        all_goals try simp only [rlk_at hb, row_at hb, rwk_at hb, rlp_at hb]
        all_goals first | rfl | exact Nat.le_refl _ | exact Nat.zero_le _ | (simp [rlpN, rgZ]; done)
      · refine inn (o' := 11) (r1' := v) (v' := u64m (v + u64m (-1))) rfl (by decide) rfl (by simp [rwOk]) (.unlook (fun h0 h8 => ?_) rfl ?_ ?_ ?_ ?_)
        · show IntKind.u64.wrap (v + 18446744073709551615) = _
          rw [wrap_u64_mod]
          omega
        all_goals try simp only [rlk_at hb, row_at hb, rwk_at hb, rlp_at hb]
        all_goals first | rfl | exact Nat.le_refl _ | exact Nat.zero_le _ | exact ⟨rfl, rfl⟩ | (simp [rlpN, rgZ]; done)
      · refine inn (o' := 12) (r1' := u64m (r1 + u64m (-1))) rfl (by decide) rfl (by simp [rwOk]) (.quiet rfl (.inl rfl) ?_ ?_ ?_ ?_)
        all_goals try simp only [rlk_at hb, row_at hb, rwk_at hb, rlp_at hb]
        all_goals first | rfl | exact Nat.le_refl _ | exact Nat.zero_le _ | (simp [rlpN, rgZ]; done)
      · refine inn (o' := 13) rfl (by decide) rfl (by simp [rwOk]) (.wake rfl rfl ?_ ?_ ?_)
        all_goals try simp only [rlk_at hb, row_at hb, rwk_at hb, rlp_at hb]
        all_goals first | rfl | exact Nat.le_refl _ | exact Nat.zero_le _ | (simp [rlpN, rgZ]; done)
      · refine ⟨_, _, _, LS.out hb (i := ⟨16, 3, 1, 0, 0⟩) (o' := 14) (rg' := [0, r1, r2, r3, r4, 0, 0, 0]) rfl (cellK_ok (by decide)) rfl rfl, rw_G0 hb _ _ _ _, .quiet rfl (.inr (.inl ⟨_, _, rfl⟩)) ?_ ?_ ?_ ?_⟩
        · rw [rlk_0, rlk_at hb]; rfl
        · rw [row_0, row_at hb]; rfl
        · rw [rwk_at hb]; exact Nat.zero_le _
        · have := rlp_0 v l (j + 1) [0, r1, r2, r3, r4, 0, 0, 0]
          rw [rlp_at hb]
          show _ ≤ 156 * (l.length - (j + 1)) + 1 + 1
          omega
    | true =>
      obtain ⟨ho, k1, k2, k4, k5, k6, k9⟩ := hok
      have inn {o' : Nat} {r1' r2' r3' r4' v' : Int} {e : EffW} {i : InsZ} (hi : ownB[o]? = some i) (hc : cellK 1 i = true) (hn : nextW i ⟨o, [0, r1, r2, r3, r4, 0, 0, 0], false⟩ [v] = (⟨o', [0, r1', r2', r3', r4', 0, 0, 0], false⟩, [v'], e)) (h' : rwOk true o' r1' r2' r3' r4')
          (hout : RwOut l ⟨j, ⟨o, [0, r1, r2, r3, r4, 0, 0, 0], false⟩⟩ v ⟨j, ⟨o', [0, r1', r2', r3', r4', 0, 0, 0], false⟩⟩ v' e) : ∃ g' v' e, LS 1 (l.map rwB) ⟨j, ⟨o, [0, r1, r2, r3, r4, 0, 0, 0], false⟩⟩ [v] g' [v'] e ∧ RwG l g' ∧ RwOut l ⟨j, ⟨o, [0, r1, r2, r3, r4, 0, 0, 0], false⟩⟩ v g' v' e :=
        ⟨_, _, _, LS.inn hb hi (cellK_ok hc) hn h'.1, rw_G hb h', hout⟩
      rcases (show o = 0 ∨ o = 1 ∨ o = 2 ∨ o = 3 ∨ o = 4 ∨ o = 5 ∨ o = 6 ∨ o = 7 ∨ o = 8 ∨ o = 9 ∨ o = 10 ∨ o = 11 by omega) with rfl | rfl | rfl | rfl | rfl | rfl | rfl | rfl | rfl | rfl | rfl | rfl
      · refine inn (o' := 1) (r1' := v) rfl (by decide) rfl (by simp [rwOk, hv]) (.quiet rfl (.inr (.inr ⟨6, rfl, .inl rfl⟩)) ?_ ?_ ?_ ?_)
        all_goals try simp only [rlk_at hb, row_at hb, rwk_at hb, rlp_at hb]
        all_goals first | rfl | exact Nat.le_refl _ | exact Nat.zero_le _ | (simp [rlpN, rgZ]; done)
      · have k1 := k1 (by decide) (by decide)
        by_cases h1 : r1 = 0
        · refine inn (o' := 4) rfl (by decide) (nx_same h1) (by simp [rwOk, rwV, h1]) (.quiet rfl (.inl rfl) ?_ ?_ ?_ ?_)
          all_goals try simp only [rlk_at hb, row_at hb, rwk_at hb, rlp_at hb]
          all_goals first | rfl | exact Nat.le_refl _ | exact Nat.zero_le _ | (simp [rlpN, rgZ]; (repeat' split) <;> omega)
        · refine inn (o' := 2) rfl (by decide) (nx_same' h1) (by simp [rwOk, k1, h1]) (.quiet rfl (.inl rfl) ?_ ?_ ?_ ?_)
          all_goals try simp only [rlk_at hb, row_at hb, rwk_at hb, rlp_at hb]
          all_goals first | rfl | exact Nat.le_refl _ | exact Nat.zero_le _ | (simp [rlpN, rgZ]; (repeat' split) <;> omega)
      · have k1 := k1 (by decide) (by decide)
        have k2 := k2 rfl
        by_cases h1 : v = r1
        · refine inn (o' := 3) rfl (by decide) (nx_wait h1) (by simp [rwOk, k1]) (.sleep rfl (by omega) rfl ?_ ?_ ⟨.inr ⟨hb, rfl⟩, rfl⟩ ?_)
          all_goals try simp only [rlk_at hb, row_at hb, rwk_at hb, rlp_at hb]
          all_goals first | rfl | exact Nat.le_refl _ | exact Nat.zero_le _ | (simp [rlpN, rgZ, h1]; done)
        · refine inn (o' := 3) rfl (by decide) (nx_wait' h1) (by simp [rwOk, k1]) (.quiet rfl (.inl rfl) ?_ ?_ ?_ ?_)
          all_goals try simp only [rlk_at hb, row_at hb, rwk_at hb, rlp_at hb]
          all_goals first | rfl | exact Nat.le_refl _ | exact Nat.zero_le _ | (simp [rlpN, rgZ, (show ¬ r1 = v from fun e => h1 e.symm)]; done)
      · refine inn (o' := 0) rfl (by decide) rfl (by simp [rwOk]) (.quiet rfl (.inl rfl) ?_ ?_ ?_ ?_)
        all_goals try simp only [rlk_at hb, row_at hb, rwk_at hb, rlp_at hb]
        all_goals first | rfl | exact Nat.le_refl _ | exact Nat.zero_le _ | (simp [rlpN, rgZ]; done)
      · have k1 := k1 (by decide) (by decide)
        have k4 := k4 (.inl rfl)
        refine inn (o' := 5) (r4' := 4294967296) rfl (by decide) rfl (by simp [rwOk, rwV, k4]) (.quiet rfl (.inl rfl) ?_ ?_ ?_ ?_)
        all_goals try simp only [rlk_at hb, row_at hb, rwk_at hb, rlp_at hb]
        all_goals first | rfl | exact Nat.le_refl _ | exact Nat.zero_le _ | (simp [rlpN, rgZ]; (repeat' split) <;> omega)
      · have k1 := k1 (by decide) (by decide)
        have k4 := k4 (.inr rfl)
        have k5 := k5 rfl
        subst k4 k5
        by_cases h1 : v = 0
        · refine inn (o' := 6) (r3' := 1) (v' := 4294967296) rfl (by decide) (nx_swap h1) (by simp [rwOk, k1]) (.own h1 rfl rfl ?_ ?_ ?_)
          all_goals try simp only [rlk_at hb, row_at hb, rwk_at hb, rlp_at hb]
          all_goals first | rfl | exact Nat.le_refl _ | exact Nat.zero_le _ | exact ⟨rfl, rfl⟩ | (simp [rlpN, rgZ, h1]; done)
        · refine inn (o' := 6) (r3' := 0) (v' := v) rfl (by decide) (nx_swap' h1) (by simp [rwOk, k1]) (.quiet rfl (.inr (.inr ⟨9, rfl, .inr rfl⟩)) ?_ ?_ ?_ ?_)
          all_goals try simp only [rlk_at hb, row_at hb, rwk_at hb, rlp_at hb]
          all_goals first | rfl | exact Nat.le_refl _ | exact Nat.zero_le _ | (simp [rlpN, rgZ, (show ¬ (0 : Int) = v from fun e => h1 e.symm)]; done)
      · have k1 := k1 (by decide) (by decide)
        rcases k6 rfl with rfl | rfl
        · refine inn (o' := 0) rfl (by decide) (nx_same rfl) (by simp [rwOk]) (.quiet rfl (.inl rfl) ?_ ?_ ?_ ?_)
          all_goals try simp only [rlk_at hb, row_at hb, rwk_at hb, rlp_at hb]
          all_goals first | rfl | exact Nat.le_refl _ | exact Nat.zero_le _ | (simp [rlpN, rgZ]; done)
        · refine inn (o' := 7) rfl (by decide) (nx_same' (fun e => absurd (show (1 : Int) = 0 from e) (by decide))) (by simp [rwOk, k1]) (.quiet rfl (.inl rfl) ?_ ?_ ?_ ?_)
          all_goals try simp only [rlk_at hb, row_at hb, rwk_at hb, rlp_at hb]
          all_goals first | rfl | exact Nat.le_refl _ | exact Nat.zero_le _ | (simp [rlpN, rgZ]; done)
      · refine inn (o' := 8) rfl (by decide) rfl (by simp [rwOk]) (.quiet rfl (.inr (.inl ⟨_, _, rfl⟩)) ?_ ?_ ?_ ?_)
        all_goals try simp only [rlk_at hb, row_at hb, rwk_at hb, rlp_at hb]
        all_goals first | rfl | exact Nat.le_refl _ | exact Nat.zero_le _ | (simp [rlpN, rgZ]; done)
      · refine inn (o' := 9) (r1' := 0) rfl (by decide) rfl (by simp [rwOk]) (.quiet rfl (.inl rfl) ?_ ?_ ?_ ?_)
        all_goals try simp only [rlk_at hb, row_at hb, rwk_at hb, rlp_at hb]
        all_goals first | rfl | exact Nat.le_refl _ | exact Nat.zero_le _ | (simp [rlpN, rgZ]; done)
      · have k9 := k9 rfl
        subst k9
        refine inn (o' := 10) (v' := 0) rfl (by decide) rfl (by simp [rwOk]) (.disown rfl rfl ?_ ?_ ?_ ?_)
        all_goals try simp only [rlk_at hb, row_at hb, rwk_at hb, rlp_at hb]
        all_goals first | rfl | exact Nat.le_refl _ | exact Nat.zero_le _ | exact ⟨rfl, rfl⟩ | (simp [rlpN, rgZ]; done)
      · refine inn (o' := 11) rfl (by decide) rfl (by simp [rwOk]) (.wake rfl rfl ?_ ?_ ?_)
        all_goals try simp only [rlk_at hb, row_at hb, rwk_at hb, rlp_at hb]
        all_goals first | rfl | exact Nat.le_refl _ | exact Nat.zero_le _ | (simp [rlpN, rgZ]; done)
      · refine ⟨_, _, _, LS.out hb (i := ⟨16, 3, 1, 0, 0⟩) (o' := 12) (rg' := [0, r1, r2, r3, r4, 0, 0, 0]) rfl (cellK_ok (by decide)) rfl rfl, rw_G0 hb _ _ _ _, .quiet rfl (.inr (.inl ⟨_, _, rfl⟩)) ?_ ?_ ?_ ?_⟩
        · rw [rlk_0, rlk_at hb]; rfl
        · rw [row_0, row_at hb]; rfl
        · rw [rwk_at hb]; exact Nat.zero_le _
        · have := rlp_0 v l (j + 1) [0, r1, r2, r3, r4, 0, 0, 0]
          rw [rlp_at hb]
          show _ ≤ 156 * (l.length - (j + 1)) + 1 + 1
          omega
  · refine ⟨_, _, _, LS.halt rfl, ⟨r1, r2, r3, r4, rfl, .inl ⟨rfl, rfl⟩⟩, .quiet rfl (.inl rfl) ?_ ?_ ?_ ?_⟩
    · simp [rlk]
      rfl
    · simp [row]
      rfl
    · simp [rwk]
      exact Nat.le_refl _
    · simp [rlp]

end Go.Mac
