/- Points in order, and those of one time as they stood. -/
import Derived.Test.YtlimhldkkbaohaaDoorQPoint
open Go Go.Proofs Go.Mac
set_option maxRecDepth 100000
namespace Go.Mac

/-- In order of time. -/
def Srt (l : List PtZ) : Prop := l.Pairwise fun x y => x.w ≤ y.w

/-- The same points, those of one time in the same order. -/
structure Keys (l l' : List PtZ) : Prop where
  len : l'.length = l.length
  flt : ∀ k : Int, l'.filter (fun x => x.w == k) = l.filter (fun x => x.w == k)

def St (l l' : List PtZ) : Prop := Srt l' ∧ Keys l l'

theorem Keys.refl (l : List PtZ) : Keys l l := ⟨rfl, fun _ => rfl⟩
theorem Keys.trans {a b c : List PtZ} (h : Keys a b) (h2 : Keys b c) : Keys a c := ⟨h2.len.trans h.len, fun k => (h2.flt k).trans (h.flt k)⟩
theorem Keys.app {a a' b b' : List PtZ} (h : Keys a a') (h2 : Keys b b') : Keys (a ++ b) (a' ++ b') :=
  ⟨by rw [List.length_append, List.length_append, h.len, h2.len], fun k => by rw [List.filter_append, List.filter_append, h.flt, h2.flt]⟩

theorem Keys.mem {l l' : List PtZ} (h : Keys l l') {x : PtZ} : x ∈ l' ↔ x ∈ l := by
  have := h.flt x.w
  constructor <;> intro hx
  · have h1 : x ∈ l'.filter (fun y => y.w == x.w) := List.mem_filter.2 ⟨hx, by simp⟩
    rw [this] at h1
    exact (List.mem_filter.1 h1).1
  · have h1 : x ∈ l.filter (fun y => y.w == x.w) := List.mem_filter.2 ⟨hx, by simp⟩
    rw [← this] at h1
    exact (List.mem_filter.1 h1).1

theorem flt_nil {l : List PtZ} {k : Int} (h : ∀ x ∈ l, x.w ≠ k) : l.filter (fun x => x.w == k) = [] := by
  rw [List.filter_eq_nil_iff]
  intro x hx
  simpa using h x hx

/-- Two lots change places, of which one is later than the other. -/
theorem Keys.swap {X Y : List PtZ} (h : ∀ x ∈ X, ∀ y ∈ Y, y.w < x.w) : Keys (X ++ Y) (Y ++ X) := by
  refine ⟨by simp [Nat.add_comm], fun k => ?_⟩
  rw [List.filter_append, List.filter_append]
  by_cases hx : ∃ x ∈ X, x.w = k
  · obtain ⟨x, hx, rfl⟩ := hx
    rw [flt_nil (l := Y) fun y hy => by have := h x hx y hy; omega]
    simp
  · rw [flt_nil (l := X) fun x hx' e => hx ⟨x, hx', e⟩]
    simp

theorem Srt.app {X Y : List PtZ} (hx : Srt X) (hy : Srt Y) (h : ∀ x ∈ X, ∀ y ∈ Y, x.w ≤ y.w) : Srt (X ++ Y) := List.pairwise_append.2 ⟨hx, hy, h⟩
theorem Srt.left {X Y : List PtZ} (h : Srt (X ++ Y)) : Srt X := (List.pairwise_append.1 h).1
theorem Srt.right {X Y : List PtZ} (h : Srt (X ++ Y)) : Srt Y := (List.pairwise_append.1 h).2.1
theorem Srt.le {X Y : List PtZ} (h : Srt (X ++ Y)) : ∀ x ∈ X, ∀ y ∈ Y, x.w ≤ y.w := (List.pairwise_append.1 h).2.2
theorem Srt.get {l : List PtZ} (h : Srt l) {i j : Nat} {x y : PtZ} (hij : i ≤ j) (hx : l[i]? = some x) (hy : l[j]? = some y) : x.w ≤ y.w := by
  rcases Nat.lt_or_eq_of_le hij with hij | rfl
  · obtain ⟨h1, rfl⟩ := List.getElem?_eq_some_iff.1 hx
    obtain ⟨h2, rfl⟩ := List.getElem?_eq_some_iff.1 hy
    exact List.pairwise_iff_getElem.1 h i j h1 h2 hij
  · rw [hx] at hy
    obtain rfl := Option.some.inj hy
    exact Int.le_refl _

theorem St.refl {l : List PtZ} (h : Srt l) : St l l := ⟨h, .refl l⟩
theorem St.mem {l l' : List PtZ} (h : St l l') {x : PtZ} : x ∈ l' ↔ x ∈ l := h.2.mem
theorem St.len {l l' : List PtZ} (h : St l l') : l'.length = l.length := h.2.len

/-- Two sorted lots, each cut in two, so that the parts fit crosswise. -/
theorem St.cross {X1 X2 Y1 Y2 L R : List PtZ} (hx : Srt (X1 ++ X2)) (hy : Srt (Y1 ++ Y2)) (h1 : ∀ x ∈ X2, ∀ y ∈ Y1, y.w < x.w) (h2 : ∀ x ∈ X1, ∀ y ∈ Y2, x.w ≤ y.w) (hL : St (X1 ++ Y1) L) (hR : St (X2 ++ Y2) R) : St ((X1 ++ X2) ++ (Y1 ++ Y2)) (L ++ R) := by
  refine ⟨hL.1.app hR.1 fun l hl r hr => ?_, ?_⟩
  · rw [hL.mem, List.mem_append] at hl
    rw [hR.mem, List.mem_append] at hr
    rcases hl with hl | hl <;> rcases hr with hr | hr
    · exact hx.le l hl r hr
    · exact h2 l hl r hr
    · have := h1 r hr l hl; omega
    · exact hy.le l hl r hr
  · have e1 : Keys (X1 ++ X2 ++ (Y1 ++ Y2)) (X1 ++ Y1 ++ (X2 ++ Y2)) := by
      have := (Keys.refl X1).app ((Keys.swap h1).app (Keys.refl Y2))
      simp only [List.append_assoc] at this ⊢
      exact this
    exact e1.trans (hL.2.app hR.2)

/-- One is put among sorted ones. -/
theorem St.front {x : PtZ} {Y1 Y2 : List PtZ} (hy : Srt (Y1 ++ Y2)) (h1 : ∀ y ∈ Y1, y.w < x.w) (h2 : ∀ y ∈ Y2, x.w ≤ y.w) : St ([x] ++ (Y1 ++ Y2)) (Y1 ++ ([x] ++ Y2)) := by
  refine ⟨?_, ?_⟩
  · refine hy.left.app (Srt.app (List.pairwise_singleton _ _) hy.right fun a ha b hb => ?_) fun a ha b hb => ?_
    · obtain rfl := List.mem_singleton.1 ha
      exact h2 b hb
    · rcases List.mem_append.1 hb with hb | hb
      · obtain rfl := List.mem_singleton.1 hb
        have := h1 a ha; omega
      · exact hy.le a ha b hb
  · have := (Keys.swap (X := [x]) (Y := Y1) fun a ha b hb => by obtain rfl := List.mem_singleton.1 ha; exact h1 b hb).app (Keys.refl Y2)
    simp only [List.append_assoc] at this ⊢
    exact this

theorem St.back {y : PtZ} {X1 X2 : List PtZ} (hx : Srt (X1 ++ X2)) (h1 : ∀ x ∈ X1, x.w ≤ y.w) (h2 : ∀ x ∈ X2, y.w < x.w) : St ((X1 ++ X2) ++ [y]) (X1 ++ ([y] ++ X2)) := by
  refine ⟨?_, ?_⟩
  · refine hx.left.app (Srt.app (List.pairwise_singleton _ _) hx.right fun a ha b hb => ?_) fun a ha b hb => ?_
    · obtain rfl := List.mem_singleton.1 ha
      have := h2 b hb; omega
    · rcases List.mem_append.1 hb with hb | hb
      · obtain rfl := List.mem_singleton.1 hb
        exact h1 a ha
      · exact hx.le a ha b hb
  · have := (Keys.refl X1).app (Keys.swap (X := X2) (Y := [y]) fun a ha b hb => by obtain rfl := List.mem_singleton.1 hb; exact h2 a ha)
    simp only [List.append_assoc] at this ⊢
    exact this

/-- What is at a place of three lots. -/
theorem at_mid {A X B : List PtZ} {i : Nat} (h : i < X.length) : (A ++ X ++ B)[A.length + i]? = X[i]? := by
  rw [List.append_assoc, List.getElem?_append_right (by omega), show A.length + i - A.length = i by omega, List.getElem?_append_left h]

theorem cut_at {X : List PtZ} {i : Nat} {x : PtZ} (h : X[i]? = some x) : X = X.take i ++ ([x] ++ X.drop (i + 1)) := by
  obtain ⟨h1, h2⟩ := List.getElem?_eq_some_iff.1 h
  have := List.take_append_drop i X
  rw [List.drop_eq_getElem_cons h1, h2] at this
  exact this.symm

/-- Two neighbours change places. -/
theorem swap_next (A B : List PtZ) (x y : PtZ) : ((A ++ ([x] ++ ([y] ++ B))).set A.length y).set (A.length + 1) x = A ++ ([y] ++ ([x] ++ B)) := by
  simp

end Go.Mac
