/- Threads that ask a phaser: what a step of one comes to, whatever it asks. -/
import Derived.Test.YtlimhldkkbaohaaDoorQGcX
open Go Go.Proofs Go.Mac
set_option maxRecDepth 100000
namespace Go.Mac

theorem gc_arr {l : List CallZ} {j : Nat} {c : CallZ} (hb : l[j]? = some c) {more fail : Int} (hmore : more = -1 ∨ more = -65537) (hfail : 30 ≤ fail)
    (hB : ∀ (o : Nat) (i : InsZ), (arriveI 0 more fail)[o]? = some i → (bodyG c)[o]? = some i) (hok : ∀ v o r1 r2 r3 r4, o ≤ 28 → arrOk more v o r1 r2 r3 r4 → gOk c v o r1 r2 r3 r4) (hok29 : ∀ v r1 r2 r3 r4, gOk c v 29 r1 r2 r3 r4) (hokf : ∀ v r1 r2 r3 r4, gOk c v fail.toNat r1 r2 r3 r4)
    (hlen : 29 < (bodyG c).length ∧ fail.toNat < (bodyG c).length) (hW : ∀ o r2 r3, o ≤ 28 → gW c o r2 r3 = arrW o r2 r3) (hL : ∀ v o r1 r3, o ≤ 28 → gL c v o r1 r3 = arrL v o r1 r3) (hL29 : ∀ v r1 r3, gL c v 29 r1 r3 ≤ 8) (hLf : ∀ v r1 r3, gL c v fail.toNat r1 r3 ≤ 1)
    {v : Int} (hv : WD v v) {o : Nat} (ho : o ≤ 28) {r1 r2 r3 r4 r5 : Int} (hk : arrOk more v o r1 r2 r3 r4) : GcS l ⟨j, ⟨o, [0, r1, r2, r3, r4, r5, 0, 0], false⟩⟩ v := by
  obtain ⟨i, o', r1', r2', r3', r4', r5', v', e, hi, hc, hn, hout⟩ := arr_step (r5 := r5) hmore hfail ho hv hk
  have hi' := hB o i hi
  cases hout with
  | inn hv he ho' hk' hw hp =>
    subst hv
    refine ⟨_, _, _, LS.inn hb hi' (cellK_ok hc) hn (by omega), ⟨_, _, _, _, _, rfl, .inr ⟨rfl, .inl ⟨c, hb, hok _ _ _ _ _ _ ho' hk'⟩⟩⟩, .quiet rfl (by rcases he with h | h; exact .inl h; exact .inr (.inr h)) ?_ ?_⟩
    · rw [gw_at hb, gw_at hb, hW _ _ _ ho, hW _ _ _ ho']; exact hw
    · rw [gl_at hb, gl_at hb, hL _ _ _ _ ho, hL _ _ _ _ ho']
      show _ + arrL _ o' r1' r3' + 1 + 1 ≤ _ + arrL _ o r1 r3 + 1
      omega
  | out hv he ho' hw hp hq =>
    subst hv he
    have hnw : gwG l ⟨j, ⟨o, [0, r1, r2, r3, r4, r5, 0, 0], false⟩⟩ = false := by rw [gw_at hb, hW _ _ _ ho]; exact hw
    rcases ho' with h | h
    · subst h
      have hq := hq rfl
      refine ⟨_, _, _, LS.inn hb hi' (cellK_ok hc) hn hlen.1, ⟨_, _, _, _, _, rfl, .inr ⟨rfl, .inl ⟨c, hb, hok29 ..⟩⟩⟩, .quiet rfl (.inl rfl) (fun h => by rw [hnw] at h; cases h) ?_⟩
      have h8 := hL29 v' r1' r3'
      rw [gl_at hb, gl_at hb, hL _ _ _ _ ho]
      show _ + gL c _ 29 r1' r3' + 1 + 1 ≤ _ + arrL _ o r1 r3 + 1
      omega
    · subst h
      refine ⟨_, _, _, LS.inn hb hi' (cellK_ok hc) hn hlen.2, ⟨_, _, _, _, _, rfl, .inr ⟨rfl, .inl ⟨c, hb, hokf ..⟩⟩⟩, .quiet rfl (.inl rfl) (fun h => by rw [hnw] at h; cases h) ?_⟩
      have h8 := hLf v' r1' r3'
      rw [gl_at hb, gl_at hb, hL _ _ _ _ ho]
      show _ + gL c _ fail.toNat r1' r3' + 1 + 1 ≤ _ + arrL _ o r1 r3 + 1
      omega
  | wake hv he ho' =>
    subst hv he
    obtain ⟨rfl, rfl⟩ := ho'
    refine ⟨_, _, _, LS.inn hb hi' (cellK_ok hc) hn (by omega), ⟨_, _, _, _, _, rfl, .inr ⟨rfl, .inl ⟨c, hb, hok _ _ _ _ _ _ (show 24 ≤ 28 by decide) (by simp [arrOk, ovOk])⟩⟩⟩, .wake rfl rfl ?_⟩
    rw [gl_at hb, gl_at hb, hL _ _ _ _ (by decide), hL _ _ _ _ (by decide)]
    simp [arrL]
  | swap hr hv' he ho' hk' hw =>
    subst he
    obtain ⟨rfl, rfl, rfl, rfl⟩ := ho'
    refine ⟨_, _, _, LS.inn hb hi' (cellK_ok hc) hn (by omega), ⟨_, _, _, _, _, rfl, .inr ⟨rfl, .inl ⟨c, hb, hok _ _ _ _ _ _ (show 19 ≤ 28 by decide) hk'⟩⟩⟩, .swap hr hv' rfl ?_ ?_⟩
    · rw [gw_at hb, hW _ _ _ (by decide)]; exact hw
    · rw [gl_at hb, gl_at hb, hL _ _ _ _ (by decide), hL _ _ _ _ (by decide)]
      simp [arrL, rgZ, pen]

theorem get_left {B T : List InsZ} : ∀ (o : Nat) (i : InsZ), B[o]? = some i → (B ++ T)[o]? = some i := fun o i h => by
  rw [List.getElem?_append_left (List.getElem?_eq_some_iff.1 h).1]
  exact h

theorem get_right {A B : List InsZ} {q : Nat} (hq : A.length = q) : ∀ (o : Nat) (i : InsZ), B[o]? = some i → (A ++ B)[q + o]? = some i := fun o i h => by
  rw [List.getElem?_append_right (by omega), hq, Nat.add_sub_cancel_left]
  exact h

theorem gfit_w {c : CallZ} (h : gFit c) : (c.w = 6 ∧ 1 ≤ c.n ∧ c.n ≤ 65535) ∨ c.w = 10 ∨ c.w = 11 ∨ c.w = 9 ∨ c.w = 8 ∨ c.w = 7 := by
  rw [gFit, gFitB] at h
  by_cases h6 : c.w = 6
  · rw [if_pos h6] at h
    exact .inl ⟨h6, of_decide_eq_true h⟩
  · rw [if_neg h6] at h
    by_cases h10 : c.w = 10
    · exact .inr (.inl h10)
    · rw [if_neg h10] at h
      split at h
      · omega
      · cases h

set_option maxHeartbeats 4000000 in
theorem gc_local {l : List CallZ} {g : GZ} {v : Int} (hv : WD v v) (hfit : ∀ c ∈ l, gFit c) (h : GcG l v g) (hd : g.y.dn = false) : GcS l g v := by
  obtain ⟨r1, r2, r3, r4, r5, hrg, hcase⟩ := h
  obtain ⟨j, o, rg, dn⟩ := g
  dsimp only at hd hrg hcase
  subst hd hrg
  rcases hcase with ⟨h1, _⟩ | ⟨_, ⟨c, hb, hok⟩ | ⟨rfl, rfl⟩⟩
  · cases h1
  · have hf := gfit_w (hfit c (List.mem_of_getElem? hb))
    obtain ⟨w, n⟩ := c
    dsimp only at hf
    rcases hf with ⟨rfl, hn⟩ | rfl | rfl | rfl | rfl | rfl
    · have hok : regOk n v o r1 r2 r3 r4 := hok
      have ho := hok.1
      have := gc_part (l := l) (j := j) (c := ⟨6, n⟩) hb (B := registerI 0 n) (ok := regOk n) (W := noW) (L := regL) (fin := 14) (q := 0) (sl := false) (fun h => by cases h) (fun o i h => by rw [Nat.zero_add]; exact h) (fun v o _ _ _ _ h => by rw [Nat.zero_add]; exact ⟨by have := h.1; show o < 15; omega, h⟩) rfl (fun _ _ _ _ => rfl) (fun _ _ _ _ _ _ h => h.1) (fun _ _ _ _ => by rw [Nat.zero_add]; rfl) ho (reg_step (r5 := r5) hn hv hok)
      rwa [Nat.zero_add] at this
    · obtain ⟨ho, hk⟩ : o ≤ 10 ∧ (1 ≤ o → awOk v (o - 1) r1 r2 r3 r4) := hok
      by_cases h0 : o = 0
      · subst h0
        refine ⟨_, _, _, LS.inn (i := ⟨1, 5, n, 0, 0⟩) (o' := 1) (rg' := [0, r1, r2, r3, r4, u64m n, 0, 0]) hb rfl (cellK_ok rfl) rfl (show 1 < 11 by decide), ⟨_, _, _, _, _, rfl, .inr ⟨rfl, .inl ⟨_, hb, ?_⟩⟩⟩, .quiet rfl (.inl rfl) (fun h => ?_) ?_⟩
        · show 1 ≤ 10 ∧ (1 ≤ 1 → awOk v (1 - 1) r1 r2 r3 r4)
          simp [awOk, ovOk]
        · rw [gw_at hb, gW_0] at h; cases h
        · rw [gl_at hb, gl_at hb]
          show _ + 8 + 1 + 1 ≤ _ + 30 + 1
          omega
      · obtain ⟨k, rfl⟩ : ∃ k, o = 1 + k := ⟨o - 1, by omega⟩
        have hk := hk (by omega)
        rw [Nat.add_sub_cancel_left] at hk
        exact gc_part (l := l) (j := j) (c := ⟨10, n⟩) hb (B := awaitI (1 : Nat)) (ok := awOk) (W := noW) (L := awL) (fin := 9) (q := 1) (sl := true) (fun _ => .inl ⟨rfl, rfl⟩) (get_right (A := [⟨1, 5, n, 0, 0⟩]) rfl) (fun v o _ _ _ _ h => by
            have h9 := h.1
            refine ⟨by show 1 + o < 11; omega, ?_⟩
            show 1 + o ≤ 10 ∧ (1 ≤ 1 + o → awOk v (1 + o - 1) _ _ _ _)
            rw [Nat.add_sub_cancel_left]
            exact ⟨by omega, fun _ => h⟩) rfl (fun _ _ _ _ => rfl) (fun _ _ _ _ _ _ h => h.1) (fun v o r1 r3 => by
            show (if 1 + o = 0 then 30 else awL v (1 + o - 1) r1 r3) = _
            rw [if_neg (by omega), Nat.add_sub_cancel_left]) hk.1 (aw_step (r5 := r5) 1 hv hk)
    · have hok : clsOk v o r1 r2 r3 r4 := hok
      have ho := hok.1
      have := gc_part (l := l) (j := j) (c := ⟨11, n⟩) hb (B := closesI 0) (ok := clsOk) (W := clsW) (L := clsL) (fin := 10) (q := 0) (sl := false) (fun h => by cases h) (fun o i h => by rw [Nat.zero_add]; exact h) (fun v o _ _ _ _ h => by rw [Nat.zero_add]; exact ⟨by have := h.1; show o < 11; omega, h⟩) rfl (fun _ _ _ _ => by rw [Nat.zero_add]; rfl) (fun _ _ _ _ _ _ h => h.1) (fun _ _ _ _ => by rw [Nat.zero_add]; rfl) ho (cls_step (r5 := r5) hv hok)
      rwa [Nat.zero_add] at this
    · obtain ⟨ho, hk, hk2⟩ : o ≤ 38 ∧ (o ≤ 28 → arrOk (-1) v o r1 r2 r3 r4) ∧ (29 ≤ o → awOk v (o - 29) r1 r2 r3 r4) := hok
      by_cases h28 : o ≤ 28
      · refine gc_arr hb (more := -1) (fail := 38) (.inl rfl) (by decide) get_left (fun v o r1 r2 r3 r4 h h' => ?_) (fun v r1 r2 r3 r4 => ?_) (fun v r1 r2 r3 r4 => ?_) ⟨show 29 < 39 by decide, show 38 < 39 by decide⟩ (fun o r2 r3 h => ?_) (fun v o r1 r3 h => ?_) (fun v r1 r3 => ?_) (fun v r1 r3 => ?_) hv h28 (hk h28)
        · exact ⟨by omega, fun _ => h', fun _ => by omega⟩
        · exact ⟨by decide, fun h => absurd h (by decide), fun _ => by simp [awOk, ovOk]⟩
        · exact ⟨by decide, fun h => absurd h (by decide), fun _ => by simp [awOk, ovOk]⟩
        · show (decide (o ≤ 28) && arrW o r2 r3) = _
          rw [decide_eq_true h]; rfl
        · show (if o ≤ 28 then _ else _) = _
          rw [if_pos h]
        · exact Nat.le_refl 8
        · exact Nat.le_refl 1
      · obtain ⟨k, rfl⟩ : ∃ k, o = 29 + k := ⟨o - 29, by omega⟩
        have hk2 := hk2 (by omega)
        rw [Nat.add_sub_cancel_left] at hk2
        exact gc_part (l := l) (j := j) (c := ⟨9, n⟩) hb (B := awaitI (29 : Nat)) (ok := awOk) (W := noW) (L := awL) (fin := 9) (q := 29) (sl := true) (fun _ => .inr ⟨rfl, rfl⟩) (get_right (A := arriveI 0 (-1) 38) rfl) (fun v o _ _ _ _ h => by
            have h9 := h.1
            refine ⟨by show 29 + o < 39; omega, by omega, fun h => by omega, fun _ => ?_⟩
            rw [Nat.add_sub_cancel_left]
            exact h) rfl (fun o r2 r3 _ => by
            show (decide (29 + o ≤ 28) && arrW (29 + o) r2 r3) = false
            rw [decide_eq_false (by omega)]; rfl) (fun _ _ _ _ _ _ h => h.1) (fun v o r1 r3 => by
            show (if 29 + o ≤ 28 then _ else awL v (29 + o - 29) r1 r3) = _
            rw [if_neg (by omega), Nat.add_sub_cancel_left]) hk2.1 (aw_step (r5 := r5) 29 hv hk2)
    · obtain ⟨ho, hk⟩ : o ≤ 30 ∧ (o ≤ 28 → arrOk (-65537) v o r1 r2 r3 r4) := hok
      by_cases h28 : o ≤ 28
      · refine gc_arr hb (more := -65537) (fail := 30) (.inr rfl) (by decide) get_left (fun v o r1 r2 r3 r4 h h' => ?_) (fun v r1 r2 r3 r4 => ?_) (fun v r1 r2 r3 r4 => ?_) ⟨show 29 < 31 by decide, show 30 < 31 by decide⟩ (fun o r2 r3 h => ?_) (fun v o r1 r3 h => ?_) (fun v r1 r3 => ?_) (fun v r1 r3 => ?_) hv h28 (hk h28)
        · exact ⟨by omega, fun _ => h'⟩
        · exact ⟨by decide, fun h => absurd h (by decide)⟩
        · exact ⟨by decide, fun h => absurd h (by decide)⟩
        · show (decide (o ≤ 28) && arrW o r2 r3) = _
          rw [decide_eq_true h]; rfl
        · show (if o ≤ 28 then _ else _) = _
          rw [if_pos h]
        · exact (show 2 ≤ 8 by decide)
        · exact Nat.le_refl 1
      · rcases (show o = 29 ∨ o = 30 by omega) with rfl | rfl
        · refine ⟨_, _, _, LS.inn (i := ⟨2, 2, 5, 0, 0⟩) (o' := 30) (rg' := [0, r1, r5, r3, r4, r5, 0, 0]) hb rfl (cellK_ok rfl) rfl (show 30 < 31 by decide), ⟨_, _, _, _, _, rfl, .inr ⟨rfl, .inl ⟨_, hb, ?_⟩⟩⟩, .quiet rfl (.inl rfl) (fun h => ?_) ?_⟩
          · exact ⟨(show 30 ≤ 30 by decide), fun h => absurd (show 30 ≤ 28 from h) (by decide)⟩
          · rw [gw_at hb] at h; cases h
          · rw [gl_at hb, gl_at hb]
            show _ + 1 + 1 + 1 ≤ _ + 2 + 1
            omega
        · refine ⟨_, _, _, LS.out (i := ⟨16, 3, 2, 0, 0⟩) (o' := 31) (rg' := [0, r1, r2, r3, r4, r5, 0, 0]) hb rfl (cellK_ok rfl) rfl rfl, gc_G0 hb _ _ _ _ _ _, .quiet rfl (.inr (.inl ⟨_, _, rfl⟩)) (fun h => ?_) ?_⟩
          · rw [gw_at hb] at h; cases h
          · have := gl_0 v l (j + 1) [0, r1, r2, r3, r4, r5, 0, 0]
            rw [gl_at hb]
            show _ + 1 ≤ _ + 1 + 1
            omega
    · obtain ⟨ho, hk⟩ : o ≤ 30 ∧ (o ≤ 28 → arrOk (-1) v o r1 r2 r3 r4) := hok
      by_cases h28 : o ≤ 28
      · refine gc_arr hb (more := -1) (fail := 30) (.inl rfl) (by decide) get_left (fun v o r1 r2 r3 r4 h h' => ?_) (fun v r1 r2 r3 r4 => ?_) (fun v r1 r2 r3 r4 => ?_) ⟨show 29 < 31 by decide, show 30 < 31 by decide⟩ (fun o r2 r3 h => ?_) (fun v o r1 r3 h => ?_) (fun v r1 r3 => ?_) (fun v r1 r3 => ?_) hv h28 (hk h28)
        · exact ⟨by omega, fun _ => h'⟩
        · exact ⟨by decide, fun h => absurd h (by decide)⟩
        · exact ⟨by decide, fun h => absurd h (by decide)⟩
        · show (decide (o ≤ 28) && arrW o r2 r3) = _
          rw [decide_eq_true h]; rfl
        · show (if o ≤ 28 then _ else _) = _
          rw [if_pos h]
        · exact (show 2 ≤ 8 by decide)
        · exact Nat.le_refl 1
      · rcases (show o = 29 ∨ o = 30 by omega) with rfl | rfl
        · refine ⟨_, _, _, LS.inn (i := ⟨2, 2, 5, 0, 0⟩) (o' := 30) (rg' := [0, r1, r5, r3, r4, r5, 0, 0]) hb rfl (cellK_ok rfl) rfl (show 30 < 31 by decide), ⟨_, _, _, _, _, rfl, .inr ⟨rfl, .inl ⟨_, hb, ?_⟩⟩⟩, .quiet rfl (.inl rfl) (fun h => ?_) ?_⟩
          · exact ⟨(show 30 ≤ 30 by decide), fun h => absurd (show 30 ≤ 28 from h) (by decide)⟩
          · rw [gw_at hb] at h; cases h
          · rw [gl_at hb, gl_at hb]
            show _ + 1 + 1 + 1 ≤ _ + 2 + 1
            omega
        · refine ⟨_, _, _, LS.out (i := ⟨16, 3, 2, 0, 0⟩) (o' := 31) (rg' := [0, r1, r2, r3, r4, r5, 0, 0]) hb rfl (cellK_ok rfl) rfl rfl, gc_G0 hb _ _ _ _ _ _, .quiet rfl (.inr (.inl ⟨_, _, rfl⟩)) (fun h => ?_) ?_⟩
          · rw [gw_at hb] at h; cases h
          · have := gl_0 v l (j + 1) [0, r1, r2, r3, r4, r5, 0, 0]
            rw [gl_at hb]
            show _ + 1 ≤ _ + 1 + 1
            omega
  · have hno : l[l.length]? = none := by simp
    refine ⟨_, _, _, LS.halt rfl, ⟨r1, r2, r3, r4, r5, rfl, .inl ⟨rfl, rfl⟩⟩, .quiet rfl (.inl rfl) (fun h => ?_) ?_⟩
    · simp [gwG] at h
    · simp [glG]

end Go.Mac
