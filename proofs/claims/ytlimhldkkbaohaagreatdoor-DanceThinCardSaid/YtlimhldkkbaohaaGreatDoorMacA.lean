/- Texts that belong together; the first of them: The machine of abstract values, part 1: values, objects, and what it means that a world fits them. -/
import Derived.Calls
import Derived.Laws.World
import Derived.Laws.Sem
import Derived.Laws.AppendOwn
import Derived.Laws.StructEq

/- The machine of abstract values, part 1: values, objects, and what it means that a world fits them. -/
section
namespace Go.Mac
open Go

/-- A cell that bears no reference. -/
inductive FC where
  | bool (b : Bool)
  | int (k : IntKind) (n : Int)
  | str (s : List UInt8)

def FC.val : FC → Value
  | .bool b => .bool b
  | .int k n => .int k n
  | .str s => .string ⟨s.toArray⟩

structure ILoc where
  blk : Nat
  base : Nat
  cap : Nat
  sz : Nat

inductive CV where
  | junk
  | f (x : FC)
  | nilptr
  | ptr (r f : Nat)
  | rptr (r i f : Nat)
  | iptr (r i j f : Nat)
  | nilslc
  | slc (r o n : Nat) (c : Option Nat) (nn : Bool)
  | islc (r i o n : Nat) (c : Option Nat) (nn : Bool)
  | dslc (n : Nat)
  /-- The slice that the i-th of the slices r is, as it was read: where it lies, and how many it has. -/
  | hslc (r i : Nat) (l : ILoc) (n : Nat)
  /-- The address of the builder in the block b. -/
  | hptr (b : Nat)
  /-- The address of a cell of a package variable. -/
  | gpt (g i : Nat)
  | nilmap
  | map (r : Nat)
  | nilfunc
  | func (f : FuncId) (cs : List Nat)
  | niliface
  | iface (t : TypeId) (x : CV)

inductive PV where
  | c (x : CV)
  | agg (cs : List CV)

inductive AV where
  | u
  | p (x : PV)
  | tup (xs : List PV)

structure Loc where
  h : ILoc
  inn : Nat → ILoc

def ILoc.at (l : ILoc) (row fld : Nat) : Addr := ⟨l.blk, l.base + row * l.sz + fld, none⟩

def OneCell : Value → Bool
  | .agg _ | .tuple _ => false
  | _ => true

/-- A slice's header over rows: from o on, n of them, room for so many. -/
def Hdr (h : ILoc) (o n : Nat) (c : Option Nat) (nn : Bool) (v : Value) : Prop :=
  (nn = false ∧ n = 0 ∧ v = .slice none 0 0 ∧ (∀ c', c = some c' → c' = 0)) ∨
  ∃ a k, v = .slice (some a) n k ∧ n ≤ k ∧ (∀ c', c = some c' → k = c') ∧ o + k ≤ h.cap ∧ (c = none → o + k = h.cap) ∧ (k ≠ 0 → a = h.at o 0)

/-- A slice of which no more is known than how many it has. -/
def Len (n : Nat) (v : Value) : Prop := (n = 0 ∧ v = .slice none 0 0) ∨ ∃ a k, v = .slice (some a) n k

theorem Hdr.len {h : ILoc} {o n : Nat} {c : Option Nat} {nn : Bool} {v : Value} : Hdr h o n c nn v → Len n v
  | .inl h => .inl ⟨h.2.1, h.2.2.1⟩
  | .inr ⟨a, k, h, _⟩ => .inr ⟨a, k, h⟩

def VC (N : Nat) (L : Nat → Loc) : CV → Value → Prop
  | .junk, v => OneCell v = true
  | .f x, v => v = x.val
  | .nilptr, v => v = .pointer none
  | .ptr r f, v => r < N ∧ v = .pointer (some ((L r).h.at 0 f))
  | .rptr r i f, v => r < N ∧ v = .pointer (some ((L r).h.at i f))
  | .iptr r i j f, v => r < N ∧ v = .pointer (some (((L r).inn i).at j f))
  | .nilslc, v => v = .slice none 0 0
  | .slc r o n c nn, v => r < N ∧ Hdr (L r).h o n c nn v
  | .islc r i o n c nn, v => r < N ∧ Hdr ((L r).inn i) o n c nn v
  | .dslc n, v => Len n v
  | .hslc _ _ l n, v => Hdr l 0 n none false v
  | .hptr b, v => v = .pointer (some ⟨b, 0, none⟩)
  | .gpt g i, v => v = .pointer (some ⟨g, i, none⟩)
  | .nilmap, v => v = .map none
  | .map r, v => r < N ∧ v = .map (some (L r).h.blk)
  | .nilfunc, v => v = .nilFunc
  | .func f cs, v => (∀ r ∈ cs, r < N) ∧ v = .func (.func f) #[] (cs.map fun r => Value.pointer (some ((L r).h.at 0 0))).toArray
  | .niliface, v => v = .nilIface
  | .iface t x, v => ∃ y, v = .iface t y ∧ VC N L x y

def VCs (N : Nat) (L : Nat → Loc) : List CV → List Value → Prop
  | [], l => l = []
  | x :: xs, l => ∃ y ys, l = y :: ys ∧ VC N L x y ∧ VCs N L xs ys

def VP (N : Nat) (L : Nat → Loc) : PV → Value → Prop
  | .c x, v => VC N L x v
  | .agg cs, v => ∃ vs : List Value, v = .agg vs.toArray ∧ VCs N L cs vs

def VPs (N : Nat) (L : Nat → Loc) : List PV → List Value → Prop
  | [], l => l = []
  | x :: xs, l => ∃ y ys, l = y :: ys ∧ VP N L x y ∧ VPs N L xs ys

def VA (N : Nat) (L : Nat → Loc) : AV → Value → Prop
  | .u, _ => True
  | .p x, v => VP N L x v
  | .tup xs, v => ∃ vs : List Value, v = .tuple vs.toArray ∧ VPs N L xs vs

def VAs (N : Nat) (L : Nat → Loc) : List AV → List Value → Prop
  | [], l => l = []
  | x :: xs, l => ∃ y ys, l = y :: ys ∧ VA N L x y ∧ VAs N L xs ys

/-- Is it one of them? -/
def has : List Nat → Nat → Bool
  | [], _ => false
  | x :: xs, r => bif Nat.beq x r then true else has xs r

def hasAny (M : List Nat) : List Nat → Bool
  | [] => false
  | r :: rs => bif has M r then true else hasAny M rs

theorem has_iff {M : List Nat} {r : Nat} : has M r = true ↔ r ∈ M := by
  induction M with
  | nil => simp [has]
  | cons x xs ih =>
    simp only [has, cond_eq_ite, List.mem_cons]
    by_cases h : x = r
    · simp [h]
    · simp [h, ih, Ne.symm h]

theorem has_false {M : List Nat} {r : Nat} (h : has M r = false) : r ∉ M := fun hm => by rw [has_iff.2 hm] at h; cases h

theorem hasAny_false {M : List Nat} : ∀ {rs : List Nat}, hasAny M rs = false → ∀ r ∈ rs, r ∉ M
  | [], _, r, hr => by simp at hr
  | x :: xs, h, r, hr => by
    simp only [hasAny] at h
    cases hx : has M x with
    | true => rw [hx] at h; cases h
    | false =>
      rw [hx] at h
      rcases List.mem_cons.1 hr with rfl | hr
      · exact has_false hx
      · exact hasAny_false h r hr

/-- What bears a reference to what has moved is forgotten. -/
def killC (M : List Nat) : CV → CV
  | .ptr r f => bif has M r then .junk else .ptr r f
  | .rptr r i f => bif has M r then .junk else .rptr r i f
  | .iptr r i j f => bif has M r then .junk else .iptr r i j f
  | .slc r o n c nn => bif has M r then .dslc n else .slc r o n c nn
  | .islc r i o n c nn => bif has M r then .junk else .islc r i o n c nn
  | .map r => bif has M r then .junk else .map r
  | .func f cs => bif hasAny M cs then .junk else .func f cs
  | .iface t x => .iface t (killC M x)
  | x => x

def killCs (M : List Nat) : List CV → List CV
  | [] => []
  | x :: xs => killC M x :: killCs M xs

def killP (M : List Nat) : PV → PV
  | .c x => .c (killC M x)
  | .agg cs => .agg (killCs M cs)

def killPs (M : List Nat) : List PV → List PV
  | [] => []
  | x :: xs => killP M x :: killPs M xs

def killA (M : List Nat) : AV → AV
  | .u => .u
  | .p x => .p (killP M x)
  | .tup xs => .tup (killPs M xs)

theorem killC_nil : ∀ x : CV, killC [] x = x
  | .junk | .f _ | .nilptr | .nilslc | .dslc _ | .hslc _ _ _ _ | .hptr _ | .gpt _ _ | .nilmap | .nilfunc | .niliface => rfl
  | .ptr _ _ | .rptr _ _ _ | .iptr _ _ _ _ | .slc _ _ _ _ _ | .islc _ _ _ _ _ _ | .map _ => rfl
  | .func f cs => by
    have : ∀ cs, hasAny [] cs = false := fun cs => by induction cs with
      | nil => rfl
      | cons x xs ih => simp [hasAny, has, ih]
    simp [killC, this]
  | .iface t x => by simp [killC, killC_nil x]

theorem killCs_eq (M : List Nat) : ∀ xs, killCs M xs = xs.map (killC M)
  | [] => rfl
  | x :: xs => by simp [killCs, killCs_eq M xs]

theorem killCs_nil (xs : List CV) : killCs [] xs = xs := by
  rw [killCs_eq]
  induction xs with
  | nil => rfl
  | cons x xs ih => simp [killC_nil, ih]

theorem killP_nil (x : PV) : killP [] x = x := by cases x <;> simp [killP, killC_nil, killCs_nil]

theorem killPs_nil : ∀ xs : List PV, killPs [] xs = xs
  | [] => rfl
  | x :: xs => by simp [killPs, killP_nil, killPs_nil xs]

theorem killA_nil (x : AV) : killA [] x = x := by cases x <;> simp [killA, killP_nil, killPs_nil]

/-- Layouts that agree, but for what has moved. -/
def Agree (N : Nat) (M : List Nat) (L L' : Nat → Loc) : Prop := ∀ i, i < N → i ∉ M → L' i = L i

theorem Agree.refl (N : Nat) (M : List Nat) (L : Nat → Loc) : Agree N M L L := fun _ _ _ => rfl

theorem Agree.trans {N N' : Nat} {M M' : List Nat} {L L' L'' : Nat → Loc} (h : Agree N M L L') (hN : N ≤ N') (h' : Agree N' M' L' L'') : Agree N (M' ++ M) L L'' := by
  intro i hi hm
  simp only [List.mem_append, not_or] at hm
  rw [h' i (by omega) hm.1, h i hi hm.2]

theorem Agree.sup {N : Nat} {M M' : List Nat} {L L' : Nat → Loc} (h : Agree N M L L') (hM : ∀ i ∈ M, i < N → i ∈ M') : Agree N M' L L' :=
  fun i hi hm => h i hi fun hh => hm (hM i hh hi)

theorem VC.oneCell {N : Nat} {L : Nat → Loc} : ∀ {x : CV} {v : Value}, VC N L x v → OneCell v = true
  | .junk, _, h => h
  | .f x, _, h => by cases x <;> (simp only [VC, FC.val] at h; subst h; rfl)
  | .nilptr, _, h | .nilslc, _, h | .nilmap, _, h | .nilfunc, _, h | .niliface, _, h => by simp only [VC] at h; subst h; rfl
  | .ptr _ _, _, h | .rptr _ _ _, _, h | .iptr _ _ _ _, _, h | .map _, _, h | .func _ _, _, h => by
    simp only [VC] at h
    obtain ⟨_, rfl⟩ := h
    rfl
  | .slc _ _ _ _ _, _, h | .islc _ _ _ _ _ _, _, h => by
    simp only [VC] at h
    obtain ⟨_, ⟨_, _, rfl, _⟩ | ⟨_, _, rfl, _⟩⟩ := h <;> rfl
  | .dslc _, _, h => by
    simp only [VC] at h
    obtain ⟨_, rfl⟩ | ⟨_, _, rfl⟩ := h <;> rfl
  | .hptr _, _, h => by simp only [VC] at h; subst h; rfl
  | .gpt _ _, _, h => by simp only [VC] at h; subst h; rfl
  | .hslc _ _ _ _, _, h => by
    simp only [VC] at h
    obtain ⟨_, _, rfl, _⟩ | ⟨_, _, rfl, _⟩ := h <;> rfl
  | .iface _ _, _, h => by
    simp only [VC] at h
    obtain ⟨_, rfl, _⟩ := h
    rfl

theorem VC.mono {N N' : Nat} {L L' : Nat → Loc} {M : List Nat} (hN : N ≤ N') (hL : Agree N M L L') : ∀ {x : CV} {v : Value}, VC N L x v → VC N' L' (killC M x) v
  | .junk, _, h | .f _, _, h | .nilptr, _, h | .nilslc, _, h | .dslc _, _, h | .hslc _ _ _ _, _, h | .hptr _, _, h | .gpt _ _, _, h | .nilmap, _, h | .nilfunc, _, h | .niliface, _, h => by simpa [VC, killC] using h
  | .slc r _ _ _ _, _, h => by
    simp only [killC]
    cases hm : has M r with
    | true => exact h.2.len
    | false =>
      simp only [cond_false]
      simp only [VC] at h ⊢
      rw [hL r h.1 (has_false hm)]
      exact ⟨by omega, h.2⟩
  | .ptr r _, _, h | .rptr r _ _, _, h | .iptr r _ _ _, _, h | .islc r _ _ _ _ _, _, h | .map r, _, h => by
    simp only [killC]
    cases hm : has M r with
    | true => exact h.oneCell
    | false =>
      simp only [cond_false]
      simp only [VC] at h ⊢
      rw [hL r h.1 (has_false hm)]
      exact ⟨by omega, h.2⟩
  | .func f cs, v, h => by
    simp only [killC]
    cases hm : hasAny M cs with
    | true => exact h.oneCell
    | false =>
      simp only [cond_false]
      simp only [VC] at h ⊢
      refine ⟨fun r hr => by have := h.1 r hr; omega, ?_⟩
      rw [h.2]
      congr 2
      exact List.map_congr_left fun r hr => by rw [hL r (h.1 r hr) (hasAny_false hm r hr)]
  | .iface t x, v, h => by
    simp only [killC, VC] at h ⊢
    obtain ⟨y, h1, h2⟩ := h
    exact ⟨y, h1, h2.mono hN hL⟩

theorem VCs.mono {N N' : Nat} {L L' : Nat → Loc} {M : List Nat} (hN : N ≤ N') (hL : Agree N M L L') : ∀ {xs : List CV} {vs : List Value}, VCs N L xs vs → VCs N' L' (killCs M xs) vs
  | [], _, h => h
  | _ :: _, _, ⟨y, ys, h1, h2, h3⟩ => ⟨y, ys, h1, h2.mono hN hL, VCs.mono hN hL h3⟩

theorem VP.mono {N N' : Nat} {L L' : Nat → Loc} {M : List Nat} (hN : N ≤ N') (hL : Agree N M L L') : ∀ {x : PV} {v : Value}, VP N L x v → VP N' L' (killP M x) v
  | .c _, _, h => VC.mono hN hL h
  | .agg _, _, ⟨vs, h1, h2⟩ => ⟨vs, h1, h2.mono hN hL⟩

theorem VPs.mono {N N' : Nat} {L L' : Nat → Loc} {M : List Nat} (hN : N ≤ N') (hL : Agree N M L L') : ∀ {xs : List PV} {vs : List Value}, VPs N L xs vs → VPs N' L' (killPs M xs) vs
  | [], _, h => h
  | _ :: _, _, ⟨y, ys, h1, h2, h3⟩ => ⟨y, ys, h1, h2.mono hN hL, VPs.mono hN hL h3⟩

theorem VA.mono {N N' : Nat} {L L' : Nat → Loc} {M : List Nat} (hN : N ≤ N') (hL : Agree N M L L') : ∀ {x : AV} {v : Value}, VA N L x v → VA N' L' (killA M x) v
  | .u, _, _ => trivial
  | .p _, _, h => VP.mono hN hL h
  | .tup _, _, ⟨vs, h1, h2⟩ => ⟨vs, h1, h2.mono hN hL⟩

theorem VCs.length {N : Nat} {L : Nat → Loc} : ∀ {xs : List CV} {vs : List Value}, VCs N L xs vs → xs.length = vs.length
  | [], _, h => by simp [VCs] at h; simp [h]
  | _ :: _, _, ⟨_, _, h1, _, h3⟩ => by subst h1; simp [VCs.length h3]

theorem VPs.length {N : Nat} {L : Nat → Loc} : ∀ {xs : List PV} {vs : List Value}, VPs N L xs vs → xs.length = vs.length
  | [], _, h => by simp [VPs] at h; simp [h]
  | _ :: _, _, ⟨_, _, h1, _, h3⟩ => by subst h1; simp [VPs.length h3]

theorem VAs.length {N : Nat} {L : Nat → Loc} : ∀ {xs : List AV} {vs : List Value}, VAs N L xs vs → xs.length = vs.length
  | [], _, h => by simp [VAs] at h; simp [h]
  | _ :: _, _, ⟨_, _, h1, _, h3⟩ => by subst h1; simp [VAs.length h3]

theorem VCs.get {N : Nat} {L : Nat → Loc} : ∀ {xs : List CV} {vs : List Value}, VCs N L xs vs → ∀ {i : Nat} {x : CV}, xs[i]? = some x → ∃ v, vs[i]? = some v ∧ VC N L x v
  | [], _, _, i, x, hi => by simp at hi
  | x :: xs, l, ⟨y, ys, h1, h2, h3⟩, i, z, hi => by
    subst h1
    cases i with
    | zero => simp at hi; subst hi; exact ⟨y, rfl, h2⟩
    | succ i => simp at hi ⊢; exact VCs.get h3 hi

theorem VPs.get {N : Nat} {L : Nat → Loc} : ∀ {xs : List PV} {vs : List Value}, VPs N L xs vs → ∀ {i : Nat} {x : PV}, xs[i]? = some x → ∃ v, vs[i]? = some v ∧ VP N L x v
  | [], _, _, i, x, hi => by simp at hi
  | x :: xs, l, ⟨y, ys, h1, h2, h3⟩, i, z, hi => by
    subst h1
    cases i with
    | zero => simp at hi; subst hi; exact ⟨y, rfl, h2⟩
    | succ i => simp at hi ⊢; exact VPs.get h3 hi

theorem VCs.of_get {N : Nat} {L : Nat → Loc} : ∀ {xs : List CV} {vs : List Value}, xs.length = vs.length → (∀ (i : Nat) (x : CV) (v : Value), xs[i]? = some x → vs[i]? = some v → VC N L x v) → VCs N L xs vs
  | [], vs, h, _ => by cases vs <;> simp [VCs] at *
  | x :: xs, [], h, _ => by simp at h
  | x :: xs, y :: ys, h, hg =>
    ⟨y, ys, rfl, hg 0 x y rfl rfl, VCs.of_get (by simpa using h) fun i a b h1 h2 => hg (i + 1) a b (by simpa using h1) (by simpa using h2)⟩

theorem VCs.set {N : Nat} {L : Nat → Loc} : ∀ {xs : List CV} {vs : List Value} (_ : VCs N L xs vs) (i : Nat) {x : CV} {v : Value} (_ : VC N L x v), VCs N L (xs.set i x) (vs.set i v)
  | [], _, h, _, _, _, _ => by simp [VCs] at h; simp [h, VCs]
  | y :: ys, l, ⟨z, zs, h1, h2, h3⟩, i, x, v, hx => by
    subst h1
    cases i with
    | zero => exact ⟨v, zs, rfl, hx, h3⟩
    | succ i => exact ⟨z, _, rfl, h2, VCs.set h3 i hx⟩

theorem VC.cells {N : Nat} {L : Nat → Loc} {x : CV} {v : Value} (h : VC N L x v) : v.cells = #[v] := by
  have := h.oneCell
  cases v <;> simp [OneCell] at this <;> rfl

/-- The cells of a value that is laid into memory. -/
def cellsOf : PV → List CV
  | .c x => [x]
  | .agg cs => cs

theorem VP.cells {N : Nat} {L : Nat → Loc} {x : PV} {v : Value} (h : VP N L x v) : VCs N L (cellsOf x) v.cells.toList := by
  cases x with
  | c x => rw [VC.cells (N := N) (L := L) (x := x) h]; exact ⟨v, [], rfl, h, rfl⟩
  | agg cs => obtain ⟨vs, rfl, h2⟩ := h; simpa [cellsOf, Value.cells] using h2

/-! ### Objects -/

inductive PO where
  | one (cs : List CV)
  | rows (ro : Bool) (sz : Nat) (rs : List (List FC))
  | rows2 (ro : Bool) (sz : Nat) (rss : List (List (List FC)))
  /-- Slices in a row of one's own, of rows that are only read. -/
  | rows2m (sz : Nat) (rss : List (List (List FC)))
  /-- The package-level variable g: it holds the handle of the type k, as a value of the type t. -/
  | hnd (g t b k : Nat)
  | tab (g : Nat) (vs : List FC)
  /-- The package-level variable g: it holds an error. -/
  | errv (g : Nat)
  /-- A builder of texts: its type, its bytes' type, and what it has been told. -/
  | bld (t e : TypeId) (k : Nat) (bs : List UInt8)
  /-- A map: what its keys and its elements are; its entries, each a key, an element, and when it came; how many ever came. -/
  | mp (kn : Nat) (vb : Bool) (es : List (List Int × Int × Nat)) (clk : Nat)
  /-- Slices, each with its place; none: it is held elsewhere. -/
  | rows3 (ap : Bool) (sz : Nat) (es : List (Option (ILoc × List (List FC))))
  /-- One goes through the map m (d: it is lost): how many had come when it began, which were seen, how many had come at the last step. -/
  | it (d : Bool) (m : Nat) (since : Nat) (seen : List Nat) (last : Nat)
  | gone

/-- A map's key: a number, or so many of them; and its element: a number, or a bool. -/
def keyV (kn : Nat) (k : List Int) : Value :=
  match kn with
  | 0 => .int .i64 (k.headD 0)
  | _ => .agg (k.map (Value.int .i64)).toArray

def elmF (vb : Bool) (n : Int) : FC :=
  match vb with
  | true => .bool (n != 0)
  | false => .int .i64 n

def keyLen (kn : Nat) : Nat :=
  match kn with
  | 0 => 1
  | n + 1 => n + 1

def entV (kn : Nat) (vb : Bool) (e : List Int × Int × Nat) : MapEntry := ⟨keyV kn e.1, (elmF vb e.2.1).val, e.2.2⟩

def Own (o : PO) (l : Loc) (b : Nat) : Prop :=
  match o with
  | .one _ => b = l.h.blk
  | .rows false _ _ => l.h.cap ≠ 0 ∧ b = l.h.blk
  | .rows2 false _ rss => (l.h.cap ≠ 0 ∧ b = l.h.blk) ∨ ∃ i, i < rss.length ∧ (l.inn i).cap ≠ 0 ∧ b = (l.inn i).blk
  | .rows2m _ _ => l.h.cap ≠ 0 ∧ b = l.h.blk
  | .bld _ _ _ _ => b = l.h.blk ∨ ((l.inn 0).cap ≠ 0 ∧ b = (l.inn 0).blk)
  | .mp _ _ _ _ => b = l.h.blk
  | .it _ _ _ _ _ => b = l.h.blk
  | .rows3 _ _ es => (l.h.cap ≠ 0 ∧ b = l.h.blk) ∨ ∃ (i : Nat) (p : ILoc × List (List FC)), es[i]? = some (some p) ∧ p.1.cap ≠ 0 ∧ b = p.1.blk
  | _ => False

def Ro (o : PO) (l : Loc) (b : Nat) : Prop :=
  match o with
  | .rows true _ _ => l.h.cap ≠ 0 ∧ b = l.h.blk
  | .rows2 true _ rss => (l.h.cap ≠ 0 ∧ b = l.h.blk) ∨ ∃ i, i < rss.length ∧ (l.inn i).cap ≠ 0 ∧ b = (l.inn i).blk
  | .rows2m _ rss => ∃ i, i < rss.length ∧ (l.inn i).cap ≠ 0 ∧ b = (l.inn i).blk
  | .hnd g _ _ _ => b = g
  | .tab g _ => b = g
  | .errv g => b = g
  | _ => False

def bytesV (bs : List UInt8) : List Value := bs.map fun b => Value.int .u8 b.toNat

theorem ownsRow_of_block {w w' : World} {e : TypeId} {v : Value} {n : Nat} {xs : List Value} (h : w.ownsRow 0 e 1 v n xs) (hw : ∀ k, v.ownBlock = some k → w'.heap[k]? = w.heap[k]?) : w'.ownsRow 0 e 1 v n xs := by
  refine ⟨h.1, ?_⟩
  rcases h.2 with h | ⟨g, cap, cur, rfl, h1, h2, h3⟩
  · exact .inl h
  · exact .inr ⟨g, cap, cur, rfl, h1, by rw [hw g rfl]; exact h2, h3⟩

/-- A block of so many cells, none of them frozen. -/
def Cells (w : World) (b n : Nat) : Prop := ∃ c t fr, w.heap[b]? = some (.cells c t fr) ∧ c.size = n ∧ ∀ i, i < c.size → ¬ (fr.1 ≤ i ∧ i < fr.2)

def RowsAt (w : World) (own : Bool) (sz : Nat) (rs : List (List FC)) (h : ILoc) : Prop :=
  h.sz = sz ∧ 0 < sz ∧ rs.length ≤ h.cap ∧ (own = true → h.cap ≠ 0 → h.base = 0 ∧ ∃ n, h.cap * sz ≤ n ∧ Cells w h.blk n) ∧
    ∀ (i : Nat) (r : List FC), rs[i]? = some r → r.length = sz ∧ ∀ (f : Nat) (x : FC), r[f]? = some x → w.cell? (h.at i f) = some x.val

def OR (N : Nat) (L : Nat → Loc) (w : World) (o : PO) (l : Loc) : Prop :=
  match o with
  | .one cs => l.h.base = 0 ∧ l.h.sz = cs.length ∧ 0 < cs.length ∧ Cells w l.h.blk cs.length ∧
      ∀ (f : Nat) (x : CV), cs[f]? = some x → ∃ v, w.cell? (l.h.at 0 f) = some v ∧ VC N L x v
  | .rows ro sz rs => RowsAt w (!ro) sz rs l.h
  | .rows2 ro sz rss => l.h.sz = 1 ∧ rss.length ≤ l.h.cap ∧ (ro = false → l.h.cap ≠ 0 → l.h.base = 0 ∧ ∃ n, l.h.cap ≤ n ∧ Cells w l.h.blk n) ∧
      (∀ (i : Nat) (rs : List (List FC)), rss[i]? = some rs → RowsAt w (!ro) sz rs (l.inn i) ∧ ∃ v, w.cell? (l.h.at i 0) = some v ∧ Hdr (l.inn i) 0 rs.length none false v) ∧
      (ro = false → l.h.cap ≠ 0 → ∀ i, i < rss.length → (l.inn i).cap ≠ 0 → (l.inn i).blk ≠ l.h.blk)
  | .rows2m sz rss => l.h.sz = 1 ∧ rss.length ≤ l.h.cap ∧ (l.h.cap ≠ 0 → l.h.base = 0 ∧ ∃ n, l.h.cap ≤ n ∧ Cells w l.h.blk n) ∧
      ∀ (i : Nat) (rs : List (List FC)), rss[i]? = some rs → RowsAt w false sz rs (l.inn i) ∧ ∃ v, w.cell? (l.h.at i 0) = some v ∧ Hdr (l.inn i) 0 rs.length none false v
  | .hnd g t b k => w.cell? ⟨g, 0, none⟩ = some (.iface t (.agg #[.pointer (some ⟨b, k, none⟩)]))
  | .tab g vs => ∃ t fr, w.heap[g]? = some (.cells (vs.map FC.val).toArray t fr)
  | .bld t e k bs => l.h.blk = k ∧ ∃ p v, w.heap[l.h.blk]? = some (.cells #[p, v] t (0, 0)) ∧ (p = .pointer none ∨ p = .pointer (some ⟨l.h.blk, 0, none⟩)) ∧ w.ownsRow 0 e 1 v bs.length (bytesV bs) ∧
      v.ownBlock = (if (l.inn 0).cap = 0 then none else some (l.inn 0).blk) ∧ v.ownBlock ≠ some l.h.blk ∧ (bs = [] → v = .slice none 0 0)
  | .errv g => ∃ t p, w.cell? ⟨g, 0, none⟩ = some (.iface t p)
  | .mp kn vb es clk => ∃ xs : Array MapEntry, w.heap[l.h.blk]? = some (.map xs clk) ∧ xs.toList = es.map (entV kn vb) ∧ ∀ e ∈ es, e.1.length = keyLen kn
  | .rows3 ap sz es => l.h.sz = 1 ∧ es.length ≤ l.h.cap ∧ (l.h.cap ≠ 0 → l.h.base = 0 ∧ ∃ n, l.h.cap ≤ n ∧ Cells w l.h.blk n) ∧
      (∀ (i : Nat) (p : ILoc × List (List FC)), es[i]? = some (some p) → RowsAt w true sz p.2 p.1 ∧ (∃ v, w.cell? (l.h.at i 0) = some v ∧ Hdr p.1 0 p.2.length none false v) ∧
        (p.1.cap ≠ 0 → (l.h.cap ≠ 0 → p.1.blk ≠ l.h.blk) ∧ (ap = true → ∀ (j : Nat) (q : ILoc × List (List FC)), es[j]? = some (some q) → q.1.cap ≠ 0 → q.1.blk = p.1.blk → j = i)))
  | .it d m since seen last => l.h.base = 0 ∧ w.heap[l.h.blk]? = some (.mapIter (some (l.inn 0).blk) since seen.toArray last) ∧ (d = false → m < N ∧ (L m).h.blk = (l.inn 0).blk)
  | .gone => True

def killO (M : List Nat) : PO → PO
  | .one cs => .one (killCs M cs)
  | .it d m since seen last => .it (d || has M m) m since seen last
  | o => o

theorem killO_nil (o : PO) : killO [] o = o := by cases o <;> simp [killO, killCs_nil, has]

theorem Own_kill {M : List Nat} {o : PO} {l : Loc} {b : Nat} : Own (killO M o) l b ↔ Own o l b := by cases o <;> exact Iff.rfl
theorem Ro_kill {M : List Nat} {o : PO} {l : Loc} {b : Nat} : Ro (killO M o) l b ↔ Ro o l b := by cases o <;> exact Iff.rfl

theorem cell?_of_heap {w w' : World} {a : Addr} (h : w'.heap[a.block]? = w.heap[a.block]?) : w'.cell? a = w.cell? a := by
  simp [World.cell?, h]

theorem Cells.mono {w w' : World} {b n : Nat} (h : w'.heap[b]? = w.heap[b]?) (hc : Cells w b n) : Cells w' b n := by
  unfold Cells at *; rw [h]; exact hc

theorem RowsAt.mono {w w' : World} {own : Bool} {sz : Nat} {rs : List (List FC)} {h : ILoc} (hw : h.cap ≠ 0 → w'.heap[h.blk]? = w.heap[h.blk]?) (hr : RowsAt w own sz rs h) : RowsAt w' own sz rs h := by
  obtain ⟨h1, h2, h3, h4, h5⟩ := hr
  refine ⟨h1, h2, h3, fun ho hc => ⟨(h4 ho hc).1, (h4 ho hc).2.elim fun n hn => ⟨n, hn.1, hn.2.mono (hw hc)⟩⟩, fun i r hi => ⟨(h5 i r hi).1, fun f x hx => ?_⟩⟩
  have hlt : i < rs.length := (List.getElem?_eq_some_iff.1 hi).1
  rw [cell?_of_heap (w := w) (hw (by omega))]
  exact (h5 i r hi).2 f x hx

theorem OR.mono {N N' : Nat} {L L' : Nat → Loc} {M : List Nat} {w w' : World} {o : PO} {l : Loc} (hN : N ≤ N') (hL : Agree N M L L')
    (hw : ∀ b, Own o l b ∨ Ro o l b → w'.heap[b]? = w.heap[b]?) (h : OR N L w o l) : OR N' L' w' (killO M o) l := by
  cases o with
  | gone => trivial
  | tab g vs =>
    obtain ⟨t, fr, h⟩ := h
    exact ⟨t, fr, (hw g (.inr rfl)).trans h⟩
  | rows2m sz rss =>
    obtain ⟨h1, h2, h3, h4⟩ := h
    have hout : l.h.cap ≠ 0 → w'.heap[l.h.blk]? = w.heap[l.h.blk]? := fun hc => hw _ (.inl ⟨hc, rfl⟩)
    refine ⟨h1, h2, fun hc => ⟨(h3 hc).1, (h3 hc).2.elim fun n hn => ⟨n, hn.1, hn.2.mono (hout hc)⟩⟩, fun i rs hi => ?_⟩
    have hlt : i < rss.length := (List.getElem?_eq_some_iff.1 hi).1
    obtain ⟨h6, v, hv, hh⟩ := h4 i rs hi
    refine ⟨h6.mono fun hc => hw _ (.inr ⟨i, hlt, hc, rfl⟩), v, ?_, hh⟩
    rw [cell?_of_heap (w := w) (hout (by omega))]
    exact hv
  | bld t e k bs =>
    obtain ⟨h0, p, v, h1, h2, h3, h4, h5⟩ := h
    refine ⟨h0, p, v, (hw l.h.blk (.inl (.inl rfl))).trans h1, h2, ownsRow_of_block h3 fun k hk => ?_, h4, h5⟩
    rw [h4] at hk
    split at hk
    · cases hk
    · rename_i hc
      obtain rfl := Option.some.inj hk
      exact hw _ (.inl (.inr ⟨hc, rfl⟩))
  | errv g =>
    obtain ⟨t, p, h⟩ := h
    exact ⟨t, p, by rw [cell?_of_heap (w := w) (hw g (.inr rfl))]; exact h⟩
  | hnd g t b k =>
    show w'.cell? ⟨g, 0, none⟩ = _
    rw [cell?_of_heap (w := w) (hw g (.inr rfl))]
    exact h
  | mp kn vb es clk =>
    obtain ⟨xs, h, h2⟩ := h
    exact ⟨xs, (hw l.h.blk (.inl rfl)).trans h, h2⟩
  | it d m since seen last =>
    obtain ⟨h0, h1, h2⟩ := h
    refine ⟨h0, (hw l.h.blk (.inl rfl)).trans h1, fun hd => ?_⟩
    simp only [Bool.or_eq_false_iff] at hd
    obtain ⟨h3, h4⟩ := h2 hd.1
    exact ⟨by omega, by rw [hL m h3 (has_false hd.2)]; exact h4⟩
  | rows3 ap sz es =>
    obtain ⟨h1, h2, h3, h4⟩ := h
    have hout : l.h.cap ≠ 0 → w'.heap[l.h.blk]? = w.heap[l.h.blk]? := fun hc => hw _ (.inl (.inl ⟨hc, rfl⟩))
    refine ⟨h1, h2, fun hc => ⟨(h3 hc).1, (h3 hc).2.elim fun n hn => ⟨n, hn.1, hn.2.mono (hout hc)⟩⟩, fun i p hi => ?_⟩
    have hlt := (List.getElem?_eq_some_iff.1 hi).1
    obtain ⟨h5, ⟨v, hv, hh⟩, h6⟩ := h4 i p hi
    refine ⟨h5.mono fun hc => hw _ (.inl (.inr ⟨i, p, hi, hc, rfl⟩)), ⟨v, ?_, hh⟩, h6⟩
    rw [cell?_of_heap (w := w) (hout (by omega))]
    exact hv
  | one cs =>
    obtain ⟨h1, h2, h3, h4, h5⟩ := h
    have hb := hw l.h.blk (.inl rfl)
    have hlen : (killCs M cs).length = cs.length := by rw [killCs_eq]; simp
    refine ⟨h1, by rw [hlen]; exact h2, by rw [hlen]; exact h3, by rw [hlen]; exact h4.mono hb, fun f x hx => ?_⟩
    rw [killCs_eq, List.getElem?_map, Option.map_eq_some_iff] at hx
    obtain ⟨x0, hx0, rfl⟩ := hx
    obtain ⟨v, hv, hvr⟩ := h5 f x0 hx0
    exact ⟨v, by rw [cell?_of_heap (w := w) hb]; exact hv, hvr.mono hN hL⟩
  | rows ro sz rs =>
    refine RowsAt.mono (fun hc => hw _ ?_) h
    cases ro
    · exact .inl ⟨hc, rfl⟩
    · exact .inr ⟨hc, rfl⟩
  | rows2 ro sz rss =>
    obtain ⟨h1, h2, h3, h4, h5⟩ := h
    have hout : l.h.cap ≠ 0 → w'.heap[l.h.blk]? = w.heap[l.h.blk]? := fun hc => hw _ (by
      cases ro
      · exact .inl (.inl ⟨hc, rfl⟩)
      · exact .inr (.inl ⟨hc, rfl⟩))
    refine ⟨h1, h2, fun ho hc => ⟨(h3 ho hc).1, (h3 ho hc).2.elim fun n hn => ⟨n, hn.1, hn.2.mono (hout hc)⟩⟩, fun i rs hi => ?_, h5⟩
    have hlt : i < rss.length := (List.getElem?_eq_some_iff.1 hi).1
    obtain ⟨h6, v, hv, hh⟩ := h4 i rs hi
    refine ⟨h6.mono fun hc => hw _ ?_, v, ?_, hh⟩
    · cases ro
      · exact .inl (.inr ⟨i, hlt, hc, rfl⟩)
      · exact .inr (.inr ⟨i, hlt, hc, rfl⟩)
    · rw [cell?_of_heap (w := w) (hout (by omega))]
      exact hv

/-! ### The blocks of B are in the world w' as they were in w. -/

structure Bel (B : Nat → Prop) (w w' : World) : Prop where
  os : w'.os = w.os
  tape : w'.tape = w.tape
  output : w'.output = w.output
  size : w.heap.size ≤ w'.heap.size
  block : ∀ k, B k → w'.heap[k]? = w.heap[k]?

theorem Bel.refl (B : Nat → Prop) (w : World) : Bel B w w := ⟨rfl, rfl, rfl, Nat.le_refl _, fun _ _ => rfl⟩

theorem Bel.trans {B : Nat → Prop} {a b c : World} (h : Bel B a b) (k : Bel B b c) : Bel B a c :=
  ⟨k.os.trans h.os, k.tape.trans h.tape, k.output.trans h.output, Nat.le_trans h.size k.size, fun i hi => (k.block i hi).trans (h.block i hi)⟩

theorem Bel.drew {B : Nat → Prop} {a w : World} (h : Bel B a w) : Bel B a w.drew := ⟨h.os, h.tape, h.output, h.size, h.block⟩

theorem heap_alloc_lt (w : World) (o : Obj) (k : Nat) (h : k < w.heap.size) : (w.alloc o).heap[k]? = w.heap[k]? := by
  show (w.heap.push o)[k]? = _
  rw [Array.getElem?_push, if_neg (by omega)]

theorem heap_alloc_eq (w : World) (o : Obj) : (w.alloc o).heap[w.heap.size]? = some o := by
  show (w.heap.push o)[w.heap.size]? = _
  simp

theorem heap_setCell_ne (w : World) (a : Addr) (u : Value) (k : Nat) (h : k ≠ a.block) : (w.setCell a u).heap[k]? = w.heap[k]? := by
  simp only [World.setCell, Array.getElem?_modify]
  rw [if_neg (by omega)]

theorem Bel.alloc {B : Nat → Prop} {a w : World} (h : Bel B a w) (hB : ∀ k, B k → k < w.heap.size) (o : Obj) : Bel B a (w.alloc o) :=
  h.trans ⟨rfl, rfl, rfl, by simp, fun k hk => heap_alloc_lt _ _ _ (hB k hk)⟩

theorem Bel.setCell {B : Nat → Prop} {a w : World} (h : Bel B a w) {p : Addr} (hp : ¬ B p.block) (u : Value) : Bel B a (w.setCell p u) :=
  h.trans ⟨rfl, rfl, rfl, by simp [World.setCell], fun k hk => heap_setCell_ne _ _ _ _ (fun e => hp (e ▸ hk))⟩

/-- A heap of objects, laid out by L, fits a world; B: blocks that are not one's own, which were so in w0. -/
structure Rel (B R : Nat → Prop) (w0 : World) (L : Nat → Loc) (H : List PO) (w : World) : Prop where
  below : Bel B w0 w
  start : ∀ k, B k → k < w0.heap.size
  obj : ∀ (i : Nat) (o : PO), H[i]? = some o → OR H.length L w o (L i)
  own : ∀ (i : Nat) (o : PO) (b : Nat), H[i]? = some o → Own o (L i) b → ¬ B b ∧ b < w.heap.size ∧ ∀ (j : Nat) (o' : PO), H[j]? = some o' → Own o' (L j) b → j = i
  ro : ∀ (i : Nat) (o : PO) (b : Nat), H[i]? = some o → Ro o (L i) b → R b
  sub : ∀ b, R b → B b

section
variable {B R : Nat → Prop} {w0 : World} {L L' : Nat → Loc} {H H' : List PO} {w w' : World} {M : List Nat}

theorem Rel.size (h : Rel B R w0 L H w) : ∀ k, B k → k < w.heap.size := fun k hk => Nat.lt_of_lt_of_le (h.start k hk) h.below.size

/-- ONE PLACE OF THE HEAP IS LAID ANEW: in its own old blocks, or in new ones. -/
theorem Rel.put (h : Rel B R w0 L H w) (i : Nat) (o' : PO)
    (hlen : H.length ≤ H'.length) (hi : H'[i]? = some o')
    (hoth : ∀ (j : Nat), j ≠ i → ∀ (o : PO), H'[j]? = some o → ∃ o0, H[j]? = some o0 ∧ o = killO M o0)
    (hL : Agree H.length M L L') (hLo : ∀ j, j ≠ i → L' j = L j)
    (hbel : Bel B w w')
    (hch : ∀ b, b < w.heap.size → w'.heap[b]? = w.heap[b]? ∨ ∃ o, H[i]? = some o ∧ Own o (L i) b)
    (hown : ∀ b, Own o' (L' i) b → ¬ B b ∧ b < w'.heap.size ∧ (w.heap.size ≤ b ∨ ∃ o, H[i]? = some o ∧ Own o (L i) b))
    (hro : ∀ b, Ro o' (L' i) b → R b)
    (hOR : OR H'.length L' w' o' (L' i)) : Rel B R w0 L' H' w' := by
  refine ⟨h.below.trans hbel, h.start, fun j o hj => ?_, fun j o b hj hb => ?_, fun j o b hj hb => ?_, h.sub⟩
  · by_cases hji : j = i
    · subst hji; rw [hi] at hj; cases hj; exact hOR
    · obtain ⟨o0, ho0, rfl⟩ := hoth j hji o hj
      rw [hLo j hji]
      refine (h.obj j o0 ho0).mono hlen hL fun b hb => ?_
      rcases hb with hb | hb
      · obtain ⟨_, hlt, hu⟩ := h.own j o0 b ho0 hb
        rcases hch b hlt with hc | ⟨o1, ho1, hb1⟩
        · exact hc
        · exact absurd (hu i o1 ho1 hb1).symm hji
      · exact hbel.block b (h.sub b (h.ro j o0 b ho0 hb))
  · by_cases hji : j = i
    · subst hji; rw [hi] at hj; cases hj
      obtain ⟨h1, h2, h3⟩ := hown b hb
      refine ⟨h1, h2, fun k o2 hk hb2 => ?_⟩
      by_cases hkj : k = j
      · exact hkj
      · obtain ⟨o0, ho0, rfl⟩ := hoth k hkj o2 hk
        rw [hLo k hkj, Own_kill] at hb2
        obtain ⟨_, hlt, hu⟩ := h.own k o0 b ho0 hb2
        rcases h3 with h3 | ⟨o1, ho1, hb1⟩
        · omega
        · exact absurd (hu j o1 ho1 hb1).symm hkj
    · obtain ⟨o0, ho0, rfl⟩ := hoth j hji o hj
      rw [hLo j hji, Own_kill] at hb
      obtain ⟨h1, h2, h3⟩ := h.own j o0 b ho0 hb
      refine ⟨h1, Nat.lt_of_lt_of_le h2 hbel.size, fun k o2 hk hb2 => ?_⟩
      by_cases hki : k = i
      · subst hki
        rw [hi] at hk; cases hk
        obtain ⟨_, _, h6⟩ := hown b hb2
        rcases h6 with h6 | ⟨o1, ho1, hb1⟩
        · omega
        · exact h3 k o1 ho1 hb1
      · obtain ⟨o3, ho3, rfl⟩ := hoth k hki o2 hk
        rw [hLo k hki, Own_kill] at hb2
        exact h3 k o3 ho3 hb2
  · by_cases hji : j = i
    · subst hji; rw [hi] at hj; cases hj; exact hro b hb
    · obtain ⟨o0, ho0, rfl⟩ := hoth j hji o hj
      rw [hLo j hji, Ro_kill] at hb
      exact h.ro j o0 b ho0 hb

/-- ONE PLACE OF THE HEAP IS LAID ANEW, with the blocks of others, which are gone from then on. -/
theorem Rel.seize (h : Rel B R w0 L H w) (i : Nat) (G : List Nat) (o' : PO)
    (hlen : H.length ≤ H'.length) (hi : H'[i]? = some o')
    (hoth : ∀ (j : Nat), j ≠ i → ∀ (o : PO), H'[j]? = some o → o = .gone ∨ (j ∉ G ∧ ∃ o0, H[j]? = some o0 ∧ o = killO M o0))
    (hL : Agree H.length M L L') (hLo : ∀ j, j ≠ i → L' j = L j)
    (hbel : Bel B w w')
    (hch : ∀ b, b < w.heap.size → w'.heap[b]? = w.heap[b]? ∨ ∃ j o, (j = i ∨ j ∈ G) ∧ H[j]? = some o ∧ Own o (L j) b)
    (hown : ∀ b, Own o' (L' i) b → ¬ B b ∧ b < w'.heap.size ∧ (w.heap.size ≤ b ∨ ∃ j o, (j = i ∨ j ∈ G) ∧ H[j]? = some o ∧ Own o (L j) b))
    (hro : ∀ b, Ro o' (L' i) b → R b)
    (hOR : OR H'.length L' w' o' (L' i)) : Rel B R w0 L' H' w' := by
  refine ⟨h.below.trans hbel, h.start, fun j o hj => ?_, fun j o b hj hb => ?_, fun j o b hj hb => ?_, h.sub⟩
  · by_cases hji : j = i
    · subst hji; rw [hi] at hj; cases hj; exact hOR
    · rcases hoth j hji o hj with rfl | ⟨hG, o0, ho0, rfl⟩
      · trivial
      rw [hLo j hji]
      refine (h.obj j o0 ho0).mono hlen hL fun b hb => ?_
      rcases hb with hb | hb
      · obtain ⟨_, hlt, hu⟩ := h.own j o0 b ho0 hb
        rcases hch b hlt with hc | ⟨j1, o1, hj1, ho1, hb1⟩
        · exact hc
        · obtain rfl := hu j1 o1 ho1 hb1
          rcases hj1 with e | e
          · exact absurd e hji
          · exact absurd e hG
      · exact hbel.block b (h.sub b (h.ro j o0 b ho0 hb))
  · by_cases hji : j = i
    · subst hji; rw [hi] at hj; cases hj
      obtain ⟨h1, h2, h3⟩ := hown b hb
      refine ⟨h1, h2, fun k o2 hk hb2 => ?_⟩
      by_cases hkj : k = j
      · exact hkj
      · rcases hoth k hkj o2 hk with rfl | ⟨hG, o0, ho0, rfl⟩
        · exact hb2.elim
        rw [hLo k hkj, Own_kill] at hb2
        obtain ⟨_, hlt, hu⟩ := h.own k o0 b ho0 hb2
        rcases h3 with h3 | ⟨j1, o1, hj1, ho1, hb1⟩
        · omega
        · obtain rfl := hu j1 o1 ho1 hb1
          rcases hj1 with e | e
          · exact e
          · exact absurd e hG
    · rcases hoth j hji o hj with rfl | ⟨hG, o0, ho0, rfl⟩
      · exact hb.elim
      rw [hLo j hji, Own_kill] at hb
      obtain ⟨h1, h2, h3⟩ := h.own j o0 b ho0 hb
      refine ⟨h1, Nat.lt_of_lt_of_le h2 hbel.size, fun k o2 hk hb2 => ?_⟩
      by_cases hki : k = i
      · subst hki
        rw [hi] at hk; cases hk
        obtain ⟨_, _, h6⟩ := hown b hb2
        rcases h6 with h6 | ⟨j1, o1, hj1, ho1, hb1⟩
        · omega
        · obtain rfl := h3 j1 o1 ho1 hb1
          rcases hj1 with e | e
          · exact e.symm
          · exact absurd e hG
      · rcases hoth k hki o2 hk with rfl | ⟨_, o3, ho3, rfl⟩
        · exact hb2.elim
        rw [hLo k hki, Own_kill] at hb2
        exact h3 k o3 ho3 hb2
  · by_cases hji : j = i
    · subst hji; rw [hi] at hj; cases hj; exact hro b hb
    · rcases hoth j hji o hj with rfl | ⟨hG, o0, ho0, rfl⟩
      · exact hb.elim
      rw [hLo j hji, Ro_kill] at hb
      exact h.ro j o0 b ho0 hb

theorem Rel.drew (h : Rel B R w0 L H w) : Rel B R w0 L H w.drew :=
  ⟨h.below.drew, h.start, fun i o hi => by
    have := (h.obj i o hi).mono (M := []) (w' := w.drew) (Nat.le_refl _) (Agree.refl _ _ _) fun _ _ => rfl
    rwa [killO_nil] at this, h.own, h.ro, h.sub⟩

end
end Go.Mac
end

/- The machine of abstract values, part 2: what operations and statements do. Definitions alone; each is written so that computing it leaves plain terms. -/
section
namespace Go.Mac
open Go

abbrev Tm := List (Nat × AV)

abbrev fcv (x : FC) : AV := .p (.c (.f x))
abbrev bl (b : Bool) : AV := .p (.c (.f (.bool b)))
abbrev i64 (n : Int) : AV := .p (.c (.f (.int .i64 n)))
abbrev u64 (n : Int) : AV := .p (.c (.f (.int .u64 n)))
abbrev st (s : List UInt8) : AV := .p (.c (.f (.str s)))
abbrev cv (x : CV) : AV := .p (.c x)
def undefA : AV := .tup []

/-- One way or the other. -/
def brc (b : Bool) (A B : Prop) : Prop :=
  match b with
  | true => A
  | false => B

theorem brc_intro {b : Bool} {A B : Prop} (h1 : b = true → A) (h2 : b = false → B) : brc b A B := by cases b <;> simp_all [brc]
theorem brc_elim {b : Bool} {A B : Prop} (h : brc b A B) : if b = true then A else B := by cases b <;> simpa [brc] using h

/-! ### Lists, laid anew -/

def nth {α : Type} : List α → Nat → Option α
  | [], _ => none
  | x :: _, 0 => some x
  | _ :: xs, n + 1 => nth xs n

theorem nth_eq {α : Type} : ∀ (l : List α) (n : Nat), nth l n = l[n]?
  | [], n => by simp [nth]
  | x :: xs, 0 => rfl
  | x :: xs, n + 1 => by simp [nth, nth_eq xs n]

def setK {α : Type} : List α → Nat → α → (List α → Prop) → Prop
  | [], _, _, k => k []
  | _ :: xs, 0, y, k => k (y :: xs)
  | x :: xs, n + 1, y, k => setK xs n y fun l => k (x :: l)

theorem setK_eq {α : Type} : ∀ (l : List α) (n : Nat) (y : α) (k : List α → Prop), setK l n y k = k (l.set n y)
  | [], _, _, _ => rfl
  | _ :: _, 0, _, _ => rfl
  | x :: xs, n + 1, y, k => by simp [setK, setK_eq xs n y]

/-- n of them, from f on. -/
def takeK {α : Type} : List α → Nat → Nat → (List α → Prop) → Prop
  | _, 0, 0, k => k []
  | [], _, _, _ => False
  | x :: xs, 0, n + 1, k => takeK xs 0 n fun l => k (x :: l)
  | _ :: xs, f + 1, n, k => takeK xs f n k

theorem takeK_spec {α : Type} : ∀ (l : List α) (f n : Nat) (k : List α → Prop), takeK l f n k → (f + n ≤ l.length ∨ n = 0) ∧ k ((l.drop f).take n)
  | l, 0, 0, k, h => by cases l <;> exact ⟨.inr rfl, by simpa [takeK] using h⟩
  | [], f + 1, n, k, h => by cases n <;> exact h.elim
  | [], 0, n + 1, k, h => h.elim
  | x :: xs, 0, n + 1, k, h => by
    have := takeK_spec xs 0 n _ h
    refine ⟨.inl (by simp; omega), by simpa using this.2⟩
  | x :: xs, f + 1, 0, k, h => by
    have := takeK_spec xs f 0 k h
    exact ⟨.inr rfl, by simpa using this.2⟩
  | x :: xs, f + 1, n + 1, k, h => by
    have := takeK_spec xs f (n + 1) k h
    refine ⟨.inl (by simp; omega), by simpa using this.2⟩

/-- Laid over a row from f on. -/
def splice {α : Type} (row : List α) (f : Nat) : List α → List α
  | [] => row
  | x :: xs => splice (row.set f x) (f + 1) xs

def setsK {α : Type} : List α → Nat → List α → (List α → Prop) → Prop
  | xs, _, [], k => k xs
  | [], _, _ :: _, _ => False
  | _ :: xs, 0, y :: ys, k => setsK xs 0 ys fun l => k (y :: l)
  | x :: xs, f + 1, y :: ys, k => setsK xs f (y :: ys) fun l => k (x :: l)

theorem splice_cons {α : Type} (x : α) : ∀ (ys row : List α) (f : Nat), splice (x :: row) (f + 1) ys = x :: splice row f ys
  | [], _, _ => rfl
  | y :: ys, row, f => by simp [splice, splice_cons x ys]

theorem setsK_spec {α : Type} : ∀ (row : List α) (f : Nat) (ys : List α) (k : List α → Prop), setsK row f ys k → (f + ys.length ≤ row.length ∨ ys = []) ∧ k (splice row f ys)
  | row, f, [], k, h => ⟨.inr rfl, by cases row <;> simpa [setsK, splice] using h⟩
  | [], f, y :: ys, k, h => by cases f <;> exact h.elim
  | x :: xs, 0, y :: ys, k, h => by
    have := setsK_spec xs 0 ys _ h
    refine ⟨.inl (by rcases this.1 with h | h <;> (simp_all; try omega)), ?_⟩
    have h2 := this.2
    simp only [splice, List.set_cons_zero]
    rw [splice_cons]
    exact h2
  | x :: xs, f + 1, y :: ys, k, h => by
    have := setsK_spec xs f (y :: ys) _ h
    refine ⟨.inl (by rcases this.1 with h | h <;> (simp_all; try omega)), ?_⟩
    rw [splice_cons]
    exact this.2

def numbers : List Nat := [0, 1, 2, 3, 4, 5, 6, 7, 8, 9, 10, 11, 12, 13, 14, 15, 16, 17, 18, 19, 20, 21, 22, 23, 24, 25, 26, 27, 28, 29, 30, 31, 32, 33, 34, 35, 36, 37, 38, 39,
  40, 41, 42, 43, 44, 45, 46, 47, 48, 49, 50, 51, 52, 53, 54, 55, 56, 57, 58, 59, 60, 61, 62, 63, 64, 65, 66, 67, 68, 69, 70, 71, 72, 73, 74, 75, 76, 77, 78, 79, 80, 81, 82, 83, 84, 85, 86, 87, 88, 89, 90, 91, 92, 93, 94, 95, 96, 97, 98, 99]

theorem numbers_eq : numbers = List.range' 0 100 := by decide

/-- One object more, and its number. -/
def snocK {α : Type} : List α → List Nat → α → (Nat → List α → Prop) → Prop
  | _, [], _, _ => False
  | [], n :: _, o, k => k n [o]
  | x :: xs, _ :: ns, o, k => snocK xs ns o fun m l => k m (x :: l)

theorem snocK_spec' {α : Type} (o : α) : ∀ (l : List α) (m s : Nat) (k : Nat → List α → Prop), snocK l (List.range' s m) o k → k (s + l.length) (l ++ [o])
  | [], 0, _, _, h => h.elim
  | [], m + 1, s, k, h => by simpa [List.range'_succ, snocK] using h
  | _ :: _, 0, _, _, h => h.elim
  | x :: xs, m + 1, s, k, h => by
    simp only [List.range'_succ, snocK] at h
    have := snocK_spec' o xs m (s + 1) _ h
    simpa [Nat.add_assoc, Nat.add_comm 1] using this

theorem snocK_spec {α : Type} {l : List α} {o : α} {k : Nat → List α → Prop} (h : snocK l numbers o k) : k l.length (l ++ [o]) := by
  rw [numbers_eq] at h
  simpa using snocK_spec' o l 100 0 k h

/-! ### Operands -/

def cvOf : Value → Option CV
  | .bool b => some (.f (.bool b))
  | .int k n => some (.f (.int k n))
  | .string s => some (.f (.str s.data.toList))
  | .pointer none => some .nilptr
  | .slice none 0 0 => some .nilslc
  | .map none => some .nilmap
  | .nilFunc => some .nilfunc
  | .nilIface => some .niliface
  | _ => none

def cvsOf : List Value → Option (List CV)
  | [] => some []
  | v :: vs =>
    match cvOf v, cvsOf vs with
    | some x, some xs => some (x :: xs)
    | _, _ => none

def avOf : Value → AV
  | .agg cs =>
    match cvsOf cs.toList with
    | some l => .p (.agg l)
    | none => .u
  | v =>
    match cvOf v with
    | some x => .p (.c x)
    | none => .u

def lk : Tm → Nat → AV
  | [], _ => .u
  | (j, x) :: T, i => bif Nat.beq j i then x else lk T i

def ev (T : Tm) : Operand → AV
  | .tmp t => lk T t
  | .const v => avOf v
  | .global g => .p (.c (.gpt g 0))
  | .func f => .p (.c (.func f []))

def fA (x : AV) (k : AV → Prop) : Prop :=
  match x with
  | .u => k .u
  | .p y => k (.p y)
  | .tup ys => k (.tup ys)

theorem fA_eq (x : AV) (k : AV → Prop) : fA x k = k x := by cases x <;> rfl

def putT (nt : Nat) (T : Tm) (d : Option Tmp) (x : AV) (k : Tm → Prop) : Prop :=
  match d with
  | none => k T
  | some d => bif Nat.blt d nt then k ((d, x) :: T) else False

/-! ### The tables -/

def szOf (P : Program) (t : TypeId) : Nat := ((P.info? t).map (·.size)).getD 0

def aggT (P : Program) (t : TypeId) : Option Bool :=
  (P.underlying t).map fun | .struct _ | .array _ _ => true | _ => false

def zval (P : Program) (t : TypeId) : AV :=
  match (P.info? t).bind (·.zero) with
  | some z => avOf z
  | none => .u

def fieldT (P : Program) (t : TypeId) (i : Nat) : Option (Nat × TypeId) :=
  match P.underlying t with
  | some (.struct fs) => (nth fs.toList i).map fun f => (f.offset, f.type)
  | _ => none

def elemT (P : Program) (t : TypeId) : Option TypeId :=
  match P.underlying t with
  | some (.slice e) => some e
  | _ => none

/-! ### Memory -/

/-- Cells that bear no reference, as cells. -/
def fmapK : List FC → (List CV → Prop) → Prop
  | [], k => k []
  | x :: xs, k => fmapK xs fun l => k (.f x :: l)

theorem fmapK_eq : ∀ (l : List FC) (k : List CV → Prop), fmapK l k = k (l.map .f)
  | [], _ => rfl
  | x :: xs, k => by simp [fmapK, fmapK_eq xs]

/-- The cells of a package variable that is known. -/
def tabOf : List PO → Nat → Option (List FC)
  | [], _ => none
  | .tab a vs :: H, g => bif Nat.beq a g then some vs else tabOf H g
  | _ :: H, g => tabOf H g

def loadA (P : Program) (H : List PO) (t : TypeId) (x : AV) (K : PV → Prop) : Prop :=
  match x with
  | .p (.c (.ptr r f)) =>
    match nth H r with
    | some (.one cs) =>
      match aggT P t with
      | some true => bif (P.info? t).isSome then takeK cs f (szOf P t) fun l => K (.agg l) else False
      | some false =>
        match nth cs f with
        | some x => K (.c x)
        | none => False
      | none => False
    | _ => False
  | .p (.c (.rptr r i f)) =>
    match nth H r with
    | some (.rows _ _ rs) =>
      match aggT P t with
      | some true => bif (P.info? t).isSome then ∃ row, rs[i]? = some row ∧ takeK row f (szOf P t) fun l => fmapK l fun cs => K (.agg cs) else False
      | some false => ∃ row x, rs[i]? = some row ∧ row[f]? = some x ∧ K (.c (.f x))
      | none => False
    | some (.rows2 _ _ rss) =>
      match aggT P t, f with
      | some false, 0 => ∃ rs, rss[i]? = some rs ∧ K (.c (.islc r i 0 rs.length none false))
      | _, _ => False
    | some (.rows3 _ _ es) =>
      match aggT P t, f with
      | some false, 0 => ∃ l rs, es[i]? = some (some (l, rs)) ∧ K (.c (.hslc r i l rs.length))
      | _, _ => False
    | _ => False
  | .p (.c (.iptr r i j f)) =>
    match nth H r with
    | some (.rows2 _ _ rss) =>
      match aggT P t with
      | some true => bif (P.info? t).isSome then ∃ rs row, rss[i]? = some rs ∧ rs[j]? = some row ∧ takeK row f (szOf P t) fun l => fmapK l fun cs => K (.agg cs) else False
      | some false => ∃ rs row x, rss[i]? = some rs ∧ rs[j]? = some row ∧ row[f]? = some x ∧ K (.c (.f x))
      | none => False
    | _ => False
  | .p (.c (.gpt g i)) =>
    match tabOf H g with
    | some vs =>
      match aggT P t with
      | some true => bif (P.info? t).isSome then takeK vs i (szOf P t) fun l => fmapK l fun cs => K (.agg cs) else False
      | some false => ∃ x, vs[i]? = some x ∧ K (.c (.f x))
      | none => False
    | none => False
  | _ => False

def fcs : List CV → Option (List FC)
  | [] => some []
  | .f x :: xs =>
    match fcs xs with
    | some l => some (x :: l)
    | none => none
  | _ :: _ => none

def lenIs {α : Type} : List α → Nat → Bool
  | [], 0 => true
  | _ :: xs, n + 1 => lenIs xs n
  | _, _ => false

theorem lenIs_spec {α : Type} : ∀ (l : List α) (n : Nat), lenIs l n = true → l.length = n
  | [], 0, _ => rfl
  | [], n + 1, h => by simp [lenIs] at h
  | x :: xs, 0, h => by simp [lenIs] at h
  | x :: xs, n + 1, h => by simp [lenIs_spec xs n h]

def storeA (P : Program) (H : List PO) (t : TypeId) (x y : AV) (K : List PO → Prop) : Prop :=
  match y with
  | .p y =>
    bif (P.info? t).isSome then
      bif lenIs (cellsOf y) (szOf P t) then
        match x with
        | .p (.c (.ptr r f)) =>
          match nth H r with
          | some (.one cs) => setsK cs f (cellsOf y) fun cs' => setK H r (.one cs') K
          | _ => False
        | .p (.c (.rptr r i f)) =>
          match nth H r with
          | some (.rows false sz rs) =>
            match fcs (cellsOf y) with
            | some ys => ∃ row, rs[i]? = some row ∧ bif Nat.ble (f + szOf P t) row.length then setsK row f ys fun row' => setK H r (.rows false sz (rs.set i row')) K else False
            | none => False
          | some (.rows3 true sz es) =>
            match f, y with
            | 0, .c (.slc r2 0 n none _) =>
              match nth H r2 with
              | some (.rows false sz2 rs) => bif Nat.beq sz2 sz && Nat.beq (szOf P t) 1 && !Nat.beq r r2 then
                  n = rs.length ∧ es[i]? = some none ∧ ∀ l : ILoc, setK H r (.rows3 true sz (es.set i (some (l, rs)))) fun H1 => setK H1 r2 .gone K
                else False
              | _ => False
            | _, _ => False
          | _ => False
        | _ => False
      else False
    else False
  | _ => False

def boxA (H : List PO) (x : AV) (K : AV → List PO → Prop) : Prop :=
  match x with
  | .p y =>
    match cellsOf y with
    | [] => False
    | c :: cs => snocK H numbers (.one (c :: cs)) fun r H' => K (cv (.ptr r 0)) H'
  | _ => False

/-- A builder of texts: a pointer to one like it, and bytes. -/
def bldT (P : Program) (t : TypeId) : Option TypeId :=
  match P.underlying t with
  | some (.struct fs) =>
    match fs.toList with
    | [f, g] =>
      match P.underlying f.type, elemT P g.type, zval P t with
      | some (.pointer u), some e, .p (.agg [.nilptr, .nilslc]) => bif Nat.beq u t then some e else none
      | _, _, _ => none
    | _ => none
  | _ => none

/-! ### Operations that ask no memory -/

/-- No number below nought; and not nought: computed, where the number stands there. -/
def nonneg (b : Int) (k : Prop) : Prop :=
  match b with
  | .ofNat _ => k
  | .negSucc _ => False

theorem nonneg_iff {b : Int} {k : Prop} : nonneg b k ↔ 0 ≤ b ∧ k := by
  cases b <;> simp [nonneg]

theorem nonneg_intro {b : Int} {k : Prop} (h : 0 ≤ b) (hk : k) : nonneg b k := nonneg_iff.2 ⟨h, hk⟩

def nonzero (b : Int) (k : Prop) : Prop :=
  match b with
  | .ofNat 0 => False
  | .ofNat (_ + 1) => k
  | .negSucc _ => k

theorem nonzero_iff {b : Int} {k : Prop} : nonzero b k ↔ b ≠ 0 ∧ k := by
  rcases b with (_ | n) | n <;> simp [nonzero]
  omega

theorem nonzero_intro {b : Int} {k : Prop} (h : b ≠ 0) (hk : k) : nonzero b k := nonzero_iff.2 ⟨h, hk⟩

def intBin (op : BinOp) (k : IntKind) (a b : Int) (K : AV → Prop) : Prop :=
  match op with
  | .add => K (fcv (.int k (k.wrap (a + b))))
  | .sub => K (fcv (.int k (k.wrap (a - b))))
  | .mul => K (fcv (.int k (k.wrap (a * b))))
  | .quo => nonzero b (K (fcv (.int k (k.wrap (a.tdiv b)))))
  | .rem => nonzero b (K (fcv (.int k (a.tmod b))))
  | .and => K (fcv (.int k (k.wrap ((BitVec.ofInt k.bits a &&& BitVec.ofInt k.bits b).toNat))))
  | .or => K (fcv (.int k (k.wrap ((BitVec.ofInt k.bits a ||| BitVec.ofInt k.bits b).toNat))))
  | .xor => K (fcv (.int k (k.wrap ((BitVec.ofInt k.bits a ^^^ BitVec.ofInt k.bits b).toNat))))
  | .andNot => K (fcv (.int k (k.wrap ((BitVec.ofInt k.bits a &&& ~~~ BitVec.ofInt k.bits b).toNat))))
  | .eql => K (bl (a == b))
  | .neq => K (bl (a != b))
  | .lss => K (bl (decide (a < b)))
  | .leq => K (bl (decide (a ≤ b)))
  | .gtr => K (bl (decide (a > b)))
  | .geq => K (bl (decide (a ≥ b)))
  | .shl => nonneg b (K (fcv (.int k (k.wrap (a * 2 ^ (min b.toNat k.bits))))))
  | .shr => nonneg b (K (fcv (.int k (a.fdiv (2 ^ (min b.toNat k.bits))))))

def isConst : Operand → Bool
  | .const _ => true
  | _ => false

/-- x == y where it is not of numbers or texts: what the model can tell. -/
def eqA (consts : Bool) : CV → CV → Option Bool
  | .niliface, .niliface => bif consts then some true else none
  | .niliface, .iface _ _ => some false
  | .iface _ _, .niliface => some false
  | .nilptr, .nilptr => some true
  | .nilptr, .ptr _ _ => some false
  | .ptr _ _, .nilptr => some false
  | .nilslc, .nilslc => some true
  | .nilslc, .slc _ _ _ _ true => some false
  | .slc _ _ _ _ true, .nilslc => some false
  | .nilfunc, .nilfunc => some true
  | .nilfunc, .func _ _ => some false
  | .func _ _, .nilfunc => some false
  | _, _ => none

def eqFC : FC → FC → Option Bool
  | .bool a, .bool b => some (a == b)
  | .int k a, .int k' b => if k = k' then some (a == b) else none
  | .str a, .str b => some (a == b)
  | _, _ => none

def eqFCs : List FC → List FC → Option Bool
  | [], [] => some true
  | x :: xs, y :: ys =>
    match eqFC x y, eqFCs xs ys with
    | some a, some b => some (a && b)
    | _, _ => none
  | _, _ => none

/-- The kind of a plain cell: 0 a bool, 1 a number, 2 a text. -/
def kindOf : FC → Nat
  | .bool _ => 0
  | .int _ _ => 1
  | .str _ => 2

def kindT (P : Program) (t : TypeId) : Nat :=
  match P.underlying t with
  | some .bool => 0
  | some (.int _) => 1
  | some .string => 2
  | _ => 8

def plainFrom (P : Program) : List Field → Nat → Bool
  | [], _ => true
  | f :: fs, n => f.offset == n && f.name != "_" && decide (kindT P f.type ≠ 8) && plainFrom P fs (n + 1)

def fieldsT (P : Program) (t : TypeId) : List Field :=
  match P.underlying t with | some (.struct fs) => fs.toList | _ => []

def plainT (P : Program) (t : TypeId) : Bool :=
  (match P.underlying t with | some (.struct _) => true | _ => false) && plainFrom P (fieldsT P t) 0 && !P.eqGuardType P.depth t && !P.stoodInHeld t

def kindsT (P : Program) (t : TypeId) : List Nat := (fieldsT P t).map fun f => kindT P f.type

def strBin (op : BinOp) (x y : List UInt8) (K : AV → Prop) : Prop :=
  match op with
  | .add => x.length + y.length ≤ 9223372036854775807 ∧ K (st (x ++ y))
  | .eql => K (bl (x == y))
  | .neq => K (bl (!(x == y)))
  | .lss => K (bl (Op.bytesLess x y))
  | .gtr => K (bl (!(Op.bytesLess x y || x == y)))
  | .leq => K (bl (Op.bytesLess x y || x == y))
  | .geq => K (bl (!Op.bytesLess x y))
  | _ => False

/-- A type that '==' knows, of the kind of what stands there. -/
def eqTy (P : Program) (t : TypeId) : CV → Bool
  | .niliface => (match P.underlying t with | some (.interface _) => true | _ => false)
  | .iface _ _ => (match P.underlying t with | some (.interface _) => true | _ => false)
  | .nilptr => (match P.underlying t with | some (.pointer _) => true | _ => false)
  | .ptr _ _ => (match P.underlying t with | some (.pointer _) => true | _ => false)
  | .nilslc => (match P.underlying t with | some (.slice _) => true | _ => false)
  | .slc _ _ _ _ _ => (match P.underlying t with | some (.slice _) => true | _ => false)
  | .nilfunc => (match P.underlying t with | some (.func _ _ _) => true | _ => false)
  | .func _ _ => (match P.underlying t with | some (.func _ _ _) => true | _ => false)
  | _ => false

def boolBin (P : Program) (op : BinOp) (t : TypeId) (a b : Bool) (K : AV → Prop) : Prop :=
  match P.underlying t, op with
  | some .bool, .eql => K (bl (a == b))
  | some .bool, .neq => K (bl (!(a == b)))
  | _, _ => False

def binA (P : Program) (op : BinOp) (t : TypeId) (consts : Bool) (x y : AV) (K : AV → Prop) : Prop :=
  match x, y with
  | .p (.c x), .p (.c y) =>
    match x, y with
    | .f (.int k a), .f (.int k' b) =>
      match op with
      | .shl => intBin .shl k a b K
      | .shr => intBin .shr k a b K
      | op => bif decide (k = k') then intBin op k a b K else False
    | .f (.str a), .f (.str b) => strBin op a b K
    | .f (.bool a), .f (.bool b) => boolBin P op t a b K
    | x, y =>
      bif eqTy P t x then
        match op, eqA consts x y with
        | .eql, some b => K (bl b)
        | .neq, some b => K (bl (!b))
        | _, _ => False
      else False
  | .p (.agg xs), .p (.agg ys) =>
    match fcs xs, fcs ys with
    | some xs, some ys =>
      plainT P t = true ∧ bif decide (xs.map kindOf = kindsT P t) then
        match op, eqFCs xs ys with
        | .eql, some b => K (bl b)
        | .neq, some b => K (bl (!b))
        | _, _ => False
      else False
    | _, _ => False
  | _, _ => False

def unA (op : UnOp) (x : AV) (K : AV → Prop) : Prop :=
  match op, x with
  | .not, .p (.c (.f (.bool b))) => K (bl (!b))
  | .neg, .p (.c (.f (.int k n))) => K (fcv (.int k (k.wrap (0 - n))))
  | _, _ => False

def convA (P : Program) (src dst : TypeId) (x : AV) (K : AV → Prop) : Prop :=
  bif (P.underlying src).isSome then
    match P.underlying dst, x with
    | some (.int k), .p (.c (.f (.int _ n))) => K (fcv (.int k (k.wrap n)))
    | some .string, .p (.c (.f (.str s))) => K (st s)
    | _, _ => False
  else False

/-- Parts laid into the cells of a struct or an array. -/
def fillK (place : Nat → Option (Nat × Nat)) (cells : List CV) (k : List CV → Prop) : List (Nat × AV) → Prop
  | [] => k cells
  | (i, v) :: rest =>
    match place i, v with
    | some (off, size), .p v => bif Nat.beq size 0 then False else bif lenIs (cellsOf v) size then setsK cells off (cellsOf v) fun cells' => fillK place cells' k rest else False
    | _, _ => False

def placeT (P : Program) (t : TypeId) : Option (Nat → Option (Nat × Nat)) :=
  match P.underlying t with
  | some (.struct fs) => bif fs.toList.all (fun f => (P.info? f.type).isSome) then some fun i => (nth fs.toList i).map fun f => (f.offset, szOf P f.type) else none
  | some (.array _ e) => bif (P.info? e).isSome then some fun i => some (i * szOf P e, szOf P e) else none
  | _ => none

def buildA (P : Program) (t : TypeId) (parts : List (Nat × AV)) (K : AV → Prop) : Prop :=
  match zval P t, placeT P t with
  | .p (.agg z), some place => fillK place z (fun cs => K (.p (.agg cs))) parts
  | _, _ => False

def extractA (x : AV) (i : Nat) (K : AV → Prop) : Prop :=
  match x with
  | .tup vs =>
    match nth vs i with
    | some v => K (.p v)
    | none => False
  | _ => False

def fieldAddrA (P : Program) (t : TypeId) (x : AV) (i : Nat) (K : AV → Prop) : Prop :=
  match fieldT P t i with
  | some (off, ft) =>
    bif Nat.beq (szOf P ft) 0 then False else
      match x with
      | .p (.c (.ptr r f)) => K (cv (.ptr r (f + off)))
      | .p (.c (.rptr r i f)) => K (cv (.rptr r i (f + off)))
      | .p (.c (.iptr r i j f)) => K (cv (.iptr r i j (f + off)))
      | _ => False
  | none => False

/-- A field of a struct that is no cell: one that is no struct itself. -/
def fieldA (P : Program) (t : TypeId) (x : AV) (i : Nat) (K : AV → Prop) : Prop :=
  match fieldT P t i with
  | some (off, ft) =>
    match aggT P ft with
    | some false =>
      match x with
      | .p (.agg cs) =>
        match nth cs off with
        | some y => K (.p (.c y))
        | none => False
      | _ => False
    | _ => False
  | none => False

def mkIfaceA (P : Program) (t : TypeId) (x : AV) (K : AV → Prop) : Prop :=
  match P.underlying t with
  | some (.interface _) => False
  | none => False
  | _ =>
    match x with
    | .p (.c y) => K (cv (.iface t y))
    | _ => False

/-! ### Slices -/

def arrT (P : Program) (t : TypeId) : Option (Nat × TypeId) :=
  match P.underlying t with
  | some (.array n e) => some (n, e)
  | _ => none

def killHK (M : List Nat) (H : List PO) (k : List PO → Prop) : Prop :=
  match M with
  | [] => k H
  | M => k (H.map (killO M))

/-- The object of a slice's elements: of what size its rows are. -/
def rowsSz (P : Program) (e : TypeId) (sz : Nat) (k : Prop) : Prop :=
  bif (P.info? e).isSome then bif Nat.beq sz (szOf P e) then k else False else False

def indexAddrA (P : Program) (H : List PO) (t : TypeId) (x i : AV) (K : AV → Prop) : Prop :=
  match i with
  | .p (.c (.f (.int _ j))) =>
    match elemT P t with
    | some e =>
      match x with
      | .p (.c (.slc r o n _ _)) =>
        match nth H r with
        | some (.rows _ sz _) => rowsSz P e sz (0 ≤ j ∧ j < n ∧ K (cv (.rptr r (o + j.toNat) 0)))
        | some (.rows2 _ _ _) => rowsSz P e 1 (0 ≤ j ∧ j < n ∧ K (cv (.rptr r (o + j.toNat) 0)))
        | some (.rows3 _ _ _) => rowsSz P e 1 (0 ≤ j ∧ j < n ∧ K (cv (.rptr r (o + j.toNat) 0)))
        | _ => False
      | .p (.c (.islc r i o n _ _)) =>
        match nth H r with
        | some (.rows2 _ sz rss) => rowsSz P e sz (i < rss.length ∧ 0 ≤ j ∧ j < n ∧ K (cv (.iptr r i (o + j.toNat) 0)))
        | _ => False
      | _ => False
    | none =>
      match arrT P t with
      | some (n, e) =>
        bif (P.info? e).isSome then
          match x with
          | .p (.c (.ptr r f)) => 0 ≤ j ∧ j < n ∧ K (cv (.ptr r (f + j.toNat * szOf P e)))
          | .p (.c (.rptr r i f)) => 0 ≤ j ∧ j < n ∧ K (cv (.rptr r i (f + j.toNat * szOf P e)))
          | .p (.c (.gpt g f)) => 0 ≤ j ∧ j < n ∧ K (cv (.gpt g (f + j.toNat * szOf P e)))
          | _ => False
        else False
      | none => False
  | _ => False

/-- The bounds of a slice expression: up to n. -/
def boundsA (n : Nat) (lo hi : Option AV) (k : Nat → Nat → Prop) : Prop :=
  match lo, hi with
  | none, none => k 0 n
  | some (.p (.c (.f (.int _ l)))), none => 0 ≤ l ∧ l ≤ n ∧ k l.toNat n
  | none, some (.p (.c (.f (.int _ h)))) => 0 ≤ h ∧ h ≤ n ∧ k 0 h.toNat
  | some (.p (.c (.f (.int _ l)))), some (.p (.c (.f (.int _ h)))) => 0 ≤ l ∧ l ≤ h ∧ h ≤ n ∧ k l.toNat h.toNat
  | _, _ => False

/-- The bounds of a slice expression with an upper one: up to m, beyond what the slice has. -/
def boundsUpA (m : Nat) (lo hi : Option AV) (k : Nat → Nat → Prop) : Prop :=
  match lo, hi with
  | none, some (.p (.c (.f (.int _ h)))) => 0 ≤ h ∧ h ≤ m ∧ k 0 h.toNat
  | some (.p (.c (.f (.int _ l)))), some (.p (.c (.f (.int _ h)))) => 0 ≤ l ∧ l ≤ h ∧ h ≤ m ∧ k l.toNat h.toNat
  | _, _ => False

/-- What a slice expression with three bounds gives, of rows. -/
def cut3A (P : Program) (H : List PO) (e : TypeId) (r o n : Nat) (nn : Bool) (l h m : Int) (K : AV → Prop) : Prop :=
  match nth H r with
  | some (.rows _ sz _) => bif Nat.beq sz (szOf P e) then K (cv (.slc r (o + l.toNat) (h.toNat - l.toNat) (some (m.toNat - l.toNat)) (nn || Nat.blt 0 n))) else K .u
  | _ => K .u

/-- Three bounds. -/
def slice3A (P : Program) (H : List PO) (t : TypeId) (x lo hi mx : AV) (K : AV → Prop) : Prop :=
  match x, lo, hi, mx with
  | .p (.c (.slc r o n _ nn)), .p (.c (.f (.int _ l))), .p (.c (.f (.int _ h))), .p (.c (.f (.int _ m))) =>
    match elemT P t with
    | some e => bif (P.info? e).isSome then 0 ≤ l ∧ l ≤ h ∧ h ≤ m ∧ m ≤ n ∧ cut3A P H e r o n nn l h m K else False
    | none => False
  | _, _, _, _ => False

def sliceA (P : Program) (H : List PO) (t : TypeId) (x : AV) (lo hi mx : Option AV) (K : AV → Prop) : Prop :=
  match mx with
  | some m =>
    match lo, hi with
    | some l, some h => slice3A P H t x l h m K
    | _, _ => False
  | none =>
    match x with
    | .p (.c (.f (.str s))) =>
      match P.underlying t with
      | some .string => boundsA s.length lo hi fun l h => K (st ((s.drop l).take (h - l)))
      | _ => False
    | .p (.c (.slc r o n c nn)) =>
      match elemT P t, nth H r with
      | some e, some (.rows _ sz rs) => rowsSz P e sz ((boundsA n lo hi fun l h => K (cv (.slc r (o + l) (h - l) (c.map (· - l)) (nn || Nat.blt 0 n)))) ∨
          (c = none ∧ nn = true ∧ o ≤ rs.length ∧ boundsUpA (rs.length - o) lo hi fun l h => K (cv (.slc r (o + l) (h - l) none true))))
      | some e, some (.rows2 _ _ _) => rowsSz P e 1 (boundsA n lo hi fun l h => K (cv (.slc r (o + l) (h - l) (c.map (· - l)) (nn || Nat.blt 0 n))))
      | some e, some (.rows3 _ _ _) => rowsSz P e 1 (boundsA n lo hi fun l h => K (cv (.slc r (o + l) (h - l) (c.map (· - l)) (nn || Nat.blt 0 n))))
      | _, _ => False
    | .p (.c (.islc r i o n c nn)) =>
      match elemT P t, nth H r with
      | some e, some (.rows2 _ sz rss) => rowsSz P e sz (i < rss.length ∧ boundsA n lo hi fun l h => K (cv (.islc r i (o + l) (h - l) (c.map (· - l)) (nn || Nat.blt 0 n))))
      | _, _ => False
    | .p (.c .nilslc) =>
      match elemT P t with
      | some e => rowsSz P e (szOf P e) (boundsA 0 lo hi fun _ _ => K (cv .nilslc))
      | none => False
    | _ => False

def lenA (P : Program) (t : TypeId) (x : AV) (K : AV → Prop) : Prop :=
  match x with
  | .p (.c (.f (.str s))) => match P.underlying t with
    | some .string => K (i64 s.length)
    | _ => False
  | .p (.c (.slc _ _ n _ _)) => match P.underlying t with
    | some (.slice _) => K (i64 n)
    | _ => False
  | .p (.c (.islc _ _ _ n _ _)) => match P.underlying t with
    | some (.slice _) => K (i64 n)
    | _ => False
  | .p (.c (.hslc _ _ _ n)) => match P.underlying t with
    | some (.slice _) => K (i64 n)
    | _ => False
  | .p (.c .nilslc) => match P.underlying t with
    | some (.slice _) => K (i64 0)
    | _ => False
  | .p (.c (.dslc n)) => match P.underlying t with
    | some (.slice _) => K (i64 n)
    | _ => False
  | _ => False

def indexA (P : Program) (t : TypeId) (x i : AV) (K : AV → Prop) : Prop :=
  match x, i with
  | .p (.c (.f (.str s))), .p (.c (.f (.int _ j))) =>
    match P.underlying t with
    | some .string => 0 ≤ j ∧ ∃ b, s[j.toNat]? = some b ∧ K (fcv (.int .u8 b.toNat))
    | _ => False
  | .p (.agg cs), .p (.c (.f (.int _ j))) =>
    match arrT P t with
    | some (n, e) =>
      match aggT P e with
      | some true => bif (P.info? e).isSome then 0 ≤ j ∧ j < n ∧ ∃ xs, (cs.drop (j.toNat * szOf P e)).take (szOf P e) = xs ∧ K (.p (.agg xs)) else False
      | some false => bif (P.info? e).isSome then 0 ≤ j ∧ j < n ∧ ∃ x, cs[j.toNat * szOf P e]? = some x ∧ K (.p (.c x)) else False
      | none => False
    | none => False
  | _, _ => False

def reps {α : Type} : Nat → List α → List α
  | 0, _ => []
  | n + 1, z => z ++ reps n z

/-- Cells cut into rows. -/
def chopK (sz : Nat) : Nat → List FC → (List (List FC) → Prop) → Prop
  | 0, _, k => k []
  | n + 1, l, k => takeK l 0 sz fun r => chopK sz n (l.drop sz) fun rs => k (r :: rs)

def buildSliceA (P : Program) (H : List PO) (t : TypeId) (n : Nat) (parts : List (Nat × AV)) (K : AV → List PO → Prop) : Prop :=
  match elemT P t with
  | some e =>
    match zval P e with
    | .p z =>
      bif (P.info? e).isSome && Nat.blt 0 (szOf P e) && Nat.ble (n * szOf P e) 16777216 && lenIs (cellsOf z) (szOf P e) then
        fillK (fun i => some (i * szOf P e, szOf P e)) (reps n (cellsOf z)) (fun cs =>
          match fcs cs with
          | some l => chopK (szOf P e) n l fun rs => snocK H numbers (.rows false (szOf P e) rs) fun r H' => K (cv (.slc r 0 n none true)) H'
          | none => False) parts
      else False
    | _ => False
  | none => False

/-- A slice of slices: of what size the rows of its elements are. -/
def slc2 (P : Program) (t : TypeId) : Option Nat :=
  match elemT P t with
  | some e =>
    match elemT P e with
    | some e2 => some (szOf P e2)
    | none => none
  | none => none

/-- The objects of slices' elements are taken. -/
def absorbK (sz : Nat) : List PO → List CV → (List Nat → List PO → List (List (List FC)) → Prop) → Prop
  | H, [], k => k [] H []
  | H, .nilslc :: cs, k => absorbK sz H cs fun M H' rss => k M H' ([] :: rss)
  | H, .slc r 0 n none _ :: cs, k =>
    match nth H r with
    | some (.rows false s rs) => bif Nat.beq s sz then n = rs.length ∧ setK H r .gone fun H1 => absorbK sz H1 cs fun M H' rss => k (r :: M) H' (rs :: rss) else False
    | _ => False
  | _, _ :: _, _ => False

/-- Slices of what is only read, all of them. -/
def allRo (H : List PO) : List CV → Bool
  | [] => true
  | .slc r 0 _ none _ :: cs =>
    match nth H r with
    | some (.rows true _ _) => allRo H cs
    | _ => false
  | _ => false

def oneRo (H : List PO) (cs : List CV) : Bool :=
  match cs with
  | [] => false
  | cs => allRo H cs

def roK (H : List PO) (sz : Nat) : List CV → (List (List (List FC)) → Prop) → Prop
  | [], k => k []
  | .slc r 0 m none _ :: cs, k =>
    match nth H r with
    | some (.rows true s rs) => bif Nat.beq s sz then m = rs.length ∧ roK H sz cs (fun l => k (rs :: l)) else False
    | _ => False
  | _, _ => False

def oneRoK (H : List PO) (sz n : Nat) (cs : List CV) (K : AV → List Nat → List PO → Prop) : Prop :=
  roK H sz cs fun rss => snocK H numbers (.rows2m sz rss) fun r' H' => K (cv (.slc r' 0 n none true)) [] H'

def build2A (P : Program) (H : List PO) (t : TypeId) (sz n : Nat) (parts : List (Nat × AV)) (K : AV → List Nat → List PO → Prop) : Prop :=
  match elemT P t with
  | some e =>
    match zval P e with
    | .p z =>
      bif (P.info? e).isSome && Nat.beq (szOf P e) 1 && Nat.ble n 16777216 && lenIs (cellsOf z) 1 && Nat.blt 0 sz then
        fillK (fun i => some (i * szOf P e, szOf P e)) (reps n (cellsOf z)) (fun cs => bif oneRo H cs then oneRoK H sz n cs K else absorbK sz H cs fun M H1 rss =>
          killHK M H1 fun H2 => snocK H2 numbers (.rows2 false sz rss) fun r H' => K (cv (.slc r 0 n none true)) M H') parts
      else False
    | _ => False
  | none => False

def makeSliceA (P : Program) (H : List PO) (t : TypeId) (l c : AV) (K : AV → List PO → Prop) : Prop :=
  match l, c with
  | .p (.c (.f (.int _ l))), .p (.c (.f (.int _ c))) =>
    match elemT P t with
    | some e =>
      match P.info? e, zval P e with
      | some i, .p z =>
        bif Nat.blt 0 i.size && lenIs (cellsOf z) i.size then
          match fcs (cellsOf z) with
          | some z => 0 ≤ l ∧ l ≤ c ∧ i.bytes * c ≤ 281474976710656 ∧ c ≤ 9223372036854775807 ∧
              snocK H numbers (.rows false i.size (List.replicate l.toNat z)) fun r H' => K (cv (.slc r 0 l.toNat none true)) H'
          | none =>
            match z, elemT P e with
            | .c .nilslc, some e2 =>
              bif Nat.beq i.size 1 && Nat.blt 0 (szOf P e2) then
                0 ≤ l ∧ l ≤ c ∧ i.bytes * c ≤ 281474976710656 ∧ c ≤ 9223372036854775807 ∧
                  snocK H numbers (.rows3 true (szOf P e2) (List.replicate l.toNat (some (⟨0, 0, 0, szOf P e2⟩, [])))) fun r H' => K (cv (.slc r 0 l.toNat none true)) H'
              else False
            | _, _ => False
        else False
      | _, _ => False
    | none => False
  | _, _ => False

/-- The rows that a slice has, or a text's bytes. -/
def rowsOfA (P : Program) (H : List PO) (e : TypeId) (x : AV) (k : List (List FC) → Prop) : Prop :=
  match x with
  | .p (.c .nilslc) => k []
  | .p (.c (.slc r o n _ _)) =>
    match nth H r with
    | some (.rows _ sz rs) => bif Nat.beq sz (szOf P e) then o + n ≤ rs.length ∧ k ((rs.drop o).take n) else False
    | _ => False
  | .p (.c (.islc r i o n _ _)) =>
    match nth H r with
    | some (.rows2 _ sz rss) => bif Nat.beq sz (szOf P e) then ∃ rs, rss[i]? = some rs ∧ o + n ≤ rs.length ∧ k ((rs.drop o).take n) else False
    | _ => False
  | _ => False

def isU8 (P : Program) (e : TypeId) : Bool :=
  match P.underlying e with
  | some (.int .u8) => true
  | _ => false

/-- What is put behind a slice: the rows that a slice has, or a text's bytes. -/
def srcA (P : Program) (H : List PO) (e u : TypeId) (x : AV) (k : List (List FC) → Prop) : Prop :=
  match elemT P u with
  | some _ => rowsOfA P H e x k
  | none =>
    match P.underlying u, x with
    | some .string, .p (.c (.f (.str s))) => bif isU8 P e && Nat.beq (szOf P e) 1 then k (s.map fun b => [.int .u8 b.toNat]) else False
    | _, _ => False

def appendA (P : Program) (H : List PO) (ts : List TypeId) (s x : AV) (K : AV → List Nat → List PO → Prop) : Prop :=
  match ts with
  | [t, u] =>
    match elemT P t with
    | some e =>
      match P.info? e, zval P e with
      | some i, .p z =>
        bif Nat.blt 0 i.size && lenIs (cellsOf z) i.size then
          srcA P H e u x fun xs =>
            match s with
            | .p (.c .nilslc) => xs.length * i.bytes ≤ 140737488355328 ∧ xs.length ≤ 9223372036854775807 ∧
                snocK H numbers (.rows false i.size xs) fun r H' => K (cv (.slc r 0 xs.length none false)) [] H'
            | .p (.c (.slc r o n c nn)) =>
              match nth H r with
              | some (.rows false sz rs) =>
                bif Nat.beq sz i.size then
                  (o = 0 ∧ n = rs.length ∧ (n + xs.length) * i.bytes ≤ 140737488355328 ∧ n + xs.length ≤ 9223372036854775807 ∧
                    killHK [r] H fun H0 => setK H0 r (.rows false sz (rs ++ xs)) fun H' => K (cv (.slc r 0 (n + xs.length) none nn)) [r] H') ∨
                  (match c with
                    | some c' => c' = n ∧ 0 < xs.length ∧ o + n ≤ rs.length ∧ (n + xs.length) * i.bytes ≤ 140737488355328 ∧ n + xs.length ≤ 9223372036854775807 ∧
                      snocK H numbers (.rows false i.size ((rs.drop o).take n ++ xs)) fun r' H' => K (cv (.slc r' 0 (n + xs.length) none true)) [] H'
                    | none => c = none ∧ nn = true ∧ o + n + xs.length ≤ rs.length ∧
                      setK H r (.rows false sz (rs.take (o + n) ++ xs ++ rs.drop (o + n + xs.length))) fun H' => K (cv (.slc r o (n + xs.length) none nn)) [] H')
                else False
              | _ => False
            | _ => False
        else False
      | _, _ => False
    | none => False
  | _ => False

/-- Behind a slice that was read from slices: it is taken out of them. -/
def append3A (P : Program) (H : List PO) (ts : List TypeId) (r i : Nat) (l : ILoc) (n : Nat) (x : AV) (K : AV → List Nat → List PO → Prop) : Prop :=
  match nth H r with
  | some (.rows3 true sz es) => ∃ rs, es[i]? = some (some (l, rs)) ∧ n = rs.length ∧ setK H r (.rows3 true sz (es.set i none)) fun H0 => snocK H0 numbers (.rows false sz rs) fun r2 H1 => appendA P H1 ts (cv (.slc r2 0 n none false)) x K
  | _ => False

/-- Slices of rows put behind others: the objects of the last ones are gone. -/
def append2A (P : Program) (H : List PO) (ts : List TypeId) (s x : AV) (K : AV → List Nat → List PO → Prop) : Prop :=
  match ts with
  | [t, u] =>
    match elemT P t, elemT P u with
    | some e, some _ =>
      match P.info? e, zval P e with
      | some i, .p z =>
        bif Nat.beq i.size 1 && lenIs (cellsOf z) 1 then
          match x with
          | .p (.c (.slc r2 0 m none _)) =>
            match nth H r2 with
            | some (.rows2 false sz xs) =>
              match s with
              | .p (.c (.slc r 0 n none nn)) =>
                bif Nat.beq r r2 then False else
                  match nth H r with
                  | some (.rows2 false sz' rs) =>
                    bif Nat.beq sz' sz then
                      m = xs.length ∧ n = rs.length ∧ (n + m) * i.bytes ≤ 140737488355328 ∧ n + m ≤ 9223372036854775807 ∧
                        killHK [r, r2] H fun H0 => setK H0 r (.rows2 false sz' (rs ++ xs)) fun H1 => setK H1 r2 .gone fun H' => K (cv (.slc r 0 (n + m) none nn)) [r, r2] H'
                    else False
                  | _ => False
              | _ => False
            | _ => False
          | _ => False
        else False
      | _, _ => False
    | _, _ => False
  | _ => False

/-! ### Maps -/

/-- What is found at a key: the element, and when it came. -/
def mpFind (k : List Int) : List (List Int × Int × Nat) → Option (Int × Nat)
  | [] => none
  | e :: es => if e.1 = k then some e.2 else mpFind k es

def mpHas (es : List (List Int × Int × Nat)) (k : List Int) : Bool := (mpFind k es).isSome
def mpGet (es : List (List Int × Int × Nat)) (k : List Int) : Int := ((mpFind k es).map (·.1)).getD 0
def mpBorn (es : List (List Int × Int × Nat)) (k : List Int) (clk : Nat) : Nat := ((mpFind k es).map (·.2)).getD clk
def mpClk (es : List (List Int × Int × Nat)) (k : List Int) (clk : Nat) : Nat := if mpHas es k = true then clk else clk + 1

/-- A key's element becomes another one. -/
def mpSet (k : List Int) (v : Int) : List (List Int × Int × Nat) → List (List Int × Int × Nat)
  | [] => []
  | e :: es => if e.1 = k then (k, v, e.2.2) :: es else e :: mpSet k v es

def mpPut (es : List (List Int × Int × Nat)) (k : List Int) (v : Int) (clk : Nat) : List (List Int × Int × Nat) := if mpHas es k = true then mpSet k v es else es ++ [(k, v, clk)]
def mpEnt (es : List (List Int × Int × Nat)) (k : List Int) (clk : Nat) : List (List Int × Int × Nat) := if mpHas es k = true then es else es ++ [(k, 0, clk)]

/-- The first entry that came then has another element. -/
def mpAt (b : Nat) (v : Int) : List (List Int × Int × Nat) → List (List Int × Int × Nat)
  | [] => []
  | e :: es => if e.2.2 = b then (e.1, v, b) :: es else e :: mpAt b v es

def mpDel (k : List Int) : List (List Int × Int × Nat) → List (List Int × Int × Nat)
  | [] => []
  | e :: es => if e.1 = k then es else e :: mpDel k es

def keyT (P : Program) (t : TypeId) : Option Nat :=
  match P.underlying t with
  | some (.int .i64) => some 0
  | some (.array n e) =>
    match P.underlying e with
    | some (.int .i64) => bif Nat.beq n 2 && ((P.info? e).isSome && Nat.beq (szOf P e) 1) then some 2 else none
    | _ => none
  | _ => none

/-- The elements' kind, which a nought of them has. -/
def elmT (P : Program) (t : TypeId) : Option Bool :=
  match P.underlying t with
  | some (.int .i64) =>
    match zval P t with
    | .p (.c (.f (.int .i64 n))) => bif decide (n = 0) then some false else none
    | _ => none
  | some .bool =>
    match zval P t with
    | .p (.c (.f (.bool b))) => bif b then none else some true
    | _ => none
  | _ => none

def mapT (P : Program) (t : TypeId) (kn : Nat) (vb : Bool) (K : Prop) : Prop :=
  match P.underlying t with
  | some (.map k e) =>
    match keyT P k, elmT P e with
    | some n, some b => bif Nat.beq n kn && (b == vb) then K else False
    | _, _ => False
  | _ => False

def intsOf : List CV → Option (List Int)
  | [] => some []
  | .f (.int .i64 n) :: xs =>
    match intsOf xs with
    | some l => some (n :: l)
    | none => none
  | _ :: _ => none

/-- A key. -/
def keyK (kn : Nat) (x : AV) (K : List Int → Prop) : Prop :=
  match kn, x with
  | 0, .p (.c (.f (.int .i64 n))) => K [n]
  | m + 1, .p (.agg cs) =>
    match intsOf cs with
    | some l => bif lenIs l (m + 1) then K l else False
    | none => False
  | _, _ => False

def elmK (vb : Bool) (x : AV) (K : Int → Prop) : Prop :=
  match vb, x with
  | false, .p (.c (.f (.int .i64 n))) => K n
  | true, .p (.c (.f (.bool b))) => K (bif b then 1 else 0)
  | _, _ => False

def makeMapA (H : List PO) (P : Program) (t : TypeId) (r : Option Operand) (K : AV → List PO → Prop) : Prop :=
  match r with
  | some _ => False
  | none =>
    match P.underlying t with
    | some (.map k e) =>
      match keyT P k, elmT P e with
      | some n, some b => snocK H numbers (.mp n b [] 0) fun r H' => K (cv (.map r)) H'
      | _, _ => False
    | _ => False

def lookupA (P : Program) (H : List PO) (t : TypeId) (x i : AV) (ok : Bool) (K : AV → Prop) : Prop :=
  match x with
  | .p (.c (.map r)) =>
    match nth H r with
    | some (.mp kn vb es _) => mapT P t kn vb (keyK kn i fun k =>
      match ok with
      | true => K (.tup [.c (.f (elmF vb (mpGet es k))), .c (.f (.bool (mpHas es k)))])
      | false => K (.p (.c (.f (elmF vb (mpGet es k))))))
    | _ => False
  | _ => False

def updateA (P : Program) (H : List PO) (t : TypeId) (x i y : AV) (K : List PO → Prop) : Prop :=
  match x with
  | .p (.c (.map r)) =>
    match nth H r with
    | some (.mp kn vb es clk) => mapT P t kn vb (keyK kn i fun k => elmK vb y fun v => setK H r (.mp kn vb (mpPut es k v clk) (mpClk es k clk)) K)
    | _ => False
  | _ => False

def entryA (P : Program) (H : List PO) (t : TypeId) (x i : AV) (K : AV → List PO → Prop) : Prop :=
  match x with
  | .p (.c (.map r)) =>
    match nth H r with
    | some (.mp kn vb es clk) => mapT P t kn vb (keyK kn i fun k =>
        setK H r (.mp kn vb (mpEnt es k clk) (mpClk es k clk)) fun H' => K (.tup [.c (.f (elmF vb (mpGet es k))), .c (.f (.int .i64 (mpBorn es k clk)))]) H')
    | _ => False
  | _ => False

def entryStoreA (H : List PO) (x b y : AV) (K : List PO → Prop) : Prop :=
  match x, b with
  | .p (.c (.map r)), .p (.c (.f (.int _ b))) =>
    match nth H r with
    | some (.mp kn vb es clk) => ∃ n : Nat, b = n ∧ (es.any fun e => e.2.2 == n) = true ∧ elmK vb y fun v => setK H r (.mp kn vb (mpAt n v es) clk) K
    | _ => False
  | _, _ => False

def deleteA (P : Program) (H : List PO) (ts : List TypeId) (x i : AV) (K : List PO → Prop) : Prop :=
  match ts with
  | t :: _ =>
    match x with
    | .p (.c (.map r)) =>
      match nth H r with
      | some (.mp kn vb es clk) => mapT P t kn vb (keyK kn i fun k => setK H r (.mp kn vb (mpDel k es) clk) K)
      | _ => False
    | _ => False
  | _ => False

/-- One begins to go through a map. -/
def rangeA (P : Program) (H : List PO) (t : TypeId) (x : AV) (K : AV → List PO → Prop) : Prop :=
  match x with
  | .p (.c (.map r)) =>
    match nth H r with
    | some (.mp kn vb _ clk) => mapT P t kn vb (snocK H numbers (.it false r clk [] clk) fun i H' => K (cv (.ptr i 0)) H')
    | _ => False
  | _ => False

/-- A key as a value. -/
def keyP (kn : Nat) (k : List Int) : PV :=
  match kn with
  | 0 => .c (.f (.int .i64 (k.headD 0)))
  | _ => .agg (k.map fun n => .f (.int .i64 n))

/-- Which are not seen yet. -/
def leftE (es : List (List Int × Int × Nat)) (seen : List Nat) : List (List Int × Int × Nat) := es.filter fun e => !seen.contains e.2.2

/-- One step further: to any that was not seen; or, if none is left, to the end. Of maps that nothing came to since. -/
def nextA (H : List PO) (x : AV) (K : AV → List PO → Prop) : Prop :=
  match x with
  | .p (.c (.ptr i 0)) =>
    match nth H i with
    | some (.it false r since seen last) =>
      match nth H r with
      | some (.mp kn vb es clk) => (∀ e ∈ es, e.2.2 < since ∧ e.2.2 < last) ∧
          (leftE es seen = [] → K (.tup [.c (.f (.bool false))]) H) ∧
          ∀ e, e ∈ leftE es seen → setK H i (.it false r since (seen ++ [e.2.2]) clk) fun H' => K (.tup [.c (.f (.bool true)), keyP kn e.1, .c (.f (elmF vb e.2.1))]) H'
      | _ => False
    | _ => False
  | _ => False

/-- The entry at which one is. -/
def entAtA (H : List PO) (x : AV) (K : AV → Prop) : Prop :=
  match x with
  | .p (.c (.ptr i 0)) =>
    match nth H i with
    | some (.it false r _ seen last) =>
      match nth H r with
      | some (.mp kn vb es clk) => clk = last ∧ ∃ b e, seen.getLast? = some b ∧ es.find? (fun e => e.2.2 == b) = some e ∧ K (.tup [keyP kn e.1, .c (.f (elmF vb e.2.1))])
      | _ => False
    | _ => False
  | _ => False

/-- How many; of a map, too. -/
def lenH (P : Program) (H : List PO) (t : TypeId) (x : AV) (K : AV → Prop) : Prop :=
  match x with
  | .p (.c (.map r)) =>
    match nth H r with
    | some (.mp kn vb es _) => mapT P t kn vb (K (i64 es.length))
    | _ => False
  | x => lenA P t x K

def capsOf : List AV → Option (List Nat)
  | [] => some []
  | .p (.c (.ptr r 0)) :: xs =>
    match capsOf xs with
    | some l => some (r :: l)
    | none => none
  | _ :: _ => none

/-- A row of noughts. -/
def zrowA (P : Program) (e : TypeId) (k : TypeInfo → List FC → Prop) : Prop :=
  match P.info? e, zval P e with
  | some i, .p z =>
    bif Nat.blt 0 i.size && lenIs (cellsOf z) i.size then
      match fcs (cellsOf z) with
      | some zf => k i zf
      | none => False
    else False
  | _, _ => False

def clearA (P : Program) (H : List PO) (ts : List TypeId) (x : AV) (K : List PO → Prop) : Prop :=
  match ts with
  | [t] =>
    match elemT P t with
    | some e => zrowA P e fun i zf =>
      match x with
      | .p (.c .nilslc) => K H
      | .p (.c (.slc r o n _ _)) =>
        match nth H r with
        | some (.rows false sz rs) => bif Nat.beq sz i.size then o + n ≤ rs.length ∧ setK H r (.rows false sz (rs.take o ++ List.replicate n zf ++ rs.drop (o + n))) K else False
        | _ => False
      | _ => False
    | none => False
  | _ => False

def byteOf : List FC → UInt8
  | [.int _ n] => UInt8.ofNat n.toNat
  | _ => 0

/-- A list, laid over another from a place on. -/
def over {α : Type} (xs : List α) (o : Nat) (ys : List α) : List α := xs.take o ++ ys ++ xs.drop (o + ys.length)

/-- Elements are copied: rows, or slices, whose object is gone then. -/
def copyA (P : Program) (H : List PO) (ts : List TypeId) (d s : AV) (K : AV → List Nat → List PO → Prop) : Prop :=
  match ts with
  | t :: _ =>
    match elemT P t, d, s with
    | some e, .p (.c (.slc rd od nd _ _)), .p (.c (.slc rs os ns _ _)) =>
      bif (P.info? e).isSome then
        match nth H rd, nth H rs with
        | some (.rows false sz xs), some (.rows _ sz' ys) =>
          bif Nat.beq sz (szOf P e) && Nat.beq sz' sz then
            od + nd ≤ xs.length ∧ os + ns ≤ ys.length ∧ setK H rd (.rows false sz (over xs od ((ys.drop os).take (min ns nd)))) fun H' => K (i64 (min ns nd : Nat)) [] H'
          else False
        | some (.rows3 _ sz es), some (.rows2 false sz' yss) =>
          bif Nat.beq (szOf P e) 1 && Nat.beq sz' sz then
            od + nd ≤ es.length ∧ os + ns ≤ yss.length ∧ ∀ inn : Nat → ILoc, killHK [rs] H fun H0 =>
              setK H0 rd (.rows3 false sz (over es od ((List.range (min ns nd)).map fun j => some (inn j, (yss.drop os).getD j [])))) fun H1 => setK H1 rs .gone fun H' => K (i64 (min ns nd : Nat)) [rs] H'
          else False
        | some (.rows3 _ sz es), some (.rows3 _ _ _) =>
          bif Nat.beq (szOf P e) 1 && Nat.beq rd rs then
            od + nd ≤ es.length ∧ os + ns ≤ es.length ∧ (∀ x ∈ (es.drop os).take (min ns nd), x.isSome = true) ∧ setK H rd (.rows3 false sz (over es od ((es.drop os).take (min ns nd)))) fun H' => K (i64 (min ns nd : Nat)) [] H'
          else False
        | _, _ => False
      else False
    | _, _, _ => False
  | _ => False

/-- Noughts that a make would have made are put behind nothing. -/
def growA (P : Program) (H : List PO) (ts : List TypeId) (m : Int) (K : AV → List Nat → List PO → Prop) : Prop :=
  match ts with
  | [t, u] =>
    match elemT P t, P.underlying u with
    | some e, some (.int _) => zrowA P e fun i zf => 0 < m ∧ m.toNat * i.bytes ≤ 140737488355328 ∧ m ≤ 9223372036854775807 ∧
        snocK H numbers (.rows false i.size (List.replicate m.toNat zf)) fun r H' => K (cv (.slc r 0 m.toNat none true)) [] H'
    | _, _ => False
  | _ => False

theorem isU8_spec {P : Program} {e : TypeId} (h : isU8 P e = true) : P.underlying e = some (.int .u8) := by
  unfold isU8 at h
  split at h
  · assumption
  · cases h

/-- Conversions between texts and bytes, and all others. -/
def convX (P : Program) (H : List PO) (s d : TypeId) (x : AV) (K : AV → List PO → Prop) : Prop :=
  match elemT P d, x with
  | some e, .p (.c (.f (.str t))) =>
    bif (P.underlying s).isSome && isU8 P e then
      snocK H numbers (.rows false 1 (t.map fun b => [.int .u8 b.toNat])) fun r H' => K (cv (.slc r 0 t.length none true)) H'
    else False
  | none, .p (.c (.slc r o n c nn)) =>
    match P.underlying d, elemT P s with
    | some .string, some e =>
      bif isU8 P e && Nat.beq (szOf P e) 1 && (P.info? e).isSome then
        rowsOfA P H e (cv (.slc r o n c nn)) fun xs => (∀ y ∈ xs, ∃ m, y = [.int .u8 m]) ∧ K (st (xs.map byteOf)) H
      else False
    | _, _ => False
  | none, .p (.c .nilslc) =>
    match P.underlying d, elemT P s with
    | some .string, some e => bif isU8 P e then K (st []) H else False
    | _, _ => False
  | _, x => convA P s d x fun v => K v H

def builtinA (P : Program) (H : List PO) (b : Builtin) (ts : List TypeId) (args : List AV) (K : AV → List Nat → List PO → Prop) : Prop :=
  match b, args with
  | .len, [x] => match ts with
    | [t] => lenH P H t x fun v => K v [] H
    | _ => False
  | .append, [s, x] =>
    match ts.head?.bind (slc2 P) with
    | some _ => append2A P H ts s x K
    | none =>
      match s, x with
      | .p (.c (.hslc r i l n)), x => append3A P H ts r i l n x K
      | .p (.c .nilslc), .p (.c (.f (.int _ m))) => growA P H ts m K
      | s, x => appendA P H ts s x K
  | .cap, [x] =>
    match ts, x with
    | [t], .p (.c .nilslc) => bif (elemT P t).isSome then K (i64 0) [] H else False
    | _, _ => False
  | .clear, [x] => clearA P H ts x fun H' => K undefA [] H'
  | .delete, [x, i] => deleteA P H ts x i fun H' => K undefA [] H'
  | .copy, [d, s] => copyA P H ts d s K
  | .max, [x, y] =>
    match x, y with
    | .p (.c (.f (.int k a))), .p (.c (.f (.int _ b))) => K (fcv (.int k (if b > a then b else a))) [] H
    | _, _ => False
  | .min, [x, y] =>
    match x, y with
    | .p (.c (.f (.int k a))), .p (.c (.f (.int _ b))) => K (fcv (.int k (if b < a then b else a))) [] H
    | _, _ => False
  | _, _ => False

/-! ### Calls -/

/-- What a call leaves. -/
def Left (B R : Nat → Prop) (w0 : World) (N : Nat) (L : Nat → Loc) (K : AV → List Nat → List PO → Prop) (v : Value) (w' : World) : Prop :=
  ∃ L' x M H', Agree N M L L' ∧ N ≤ H'.length ∧ VA H'.length L' x v ∧ Rel B R w0 L' H' w' ∧ K x M H'

/-- A CALL DOES: whatever world the heap fits, it returns, and leaves such a value, such moved objects, and such a heap. -/
structure Does (P : Program) (f : FuncId) (args : List AV) (H : List PO) (K : AV → List Nat → List PO → Prop) : Prop where
  fn : ∃ fn, P.funcs[f]? = some fn ∧ fn.name ≠ "runtime.NumGoroutine" ∧ fn.body.isSome = true
  run : ∀ B R w0 L w vs, Rel B R w0 L H w → VAs H.length L args vs → Calls P f vs.toArray w fun e w' => ∃ v, e = .returned v ∧ Left B R w0 H.length L K v w'

def evs (T : Tm) : List Operand → (List AV → Prop) → Prop
  | [], k => k []
  | x :: xs, k => fA (ev T x) fun v => evs T xs fun vs => k (v :: vs)

def capsK : List Nat → (List AV → Prop) → Prop
  | [], k => k []
  | r :: rs, k => capsK rs fun vs => k (cv (.ptr r 0) :: vs)

def addK : List AV → List AV → (List AV → Prop) → Prop
  | [], ys, k => k ys
  | x :: xs, ys, k => addK xs ys fun l => k (x :: l)

/-- One operation: its value, what has moved, the heap behind. -/
def aop (P : Program) (T : Tm) (H : List PO) (K : AV → List Nat → List PO → Prop) : Op → Prop
  | .move x => fA (ev T x) fun v => K v [] H
  | .assign x => fA (ev T x) fun v => K v [] H
  | .pick c a b =>
    match ev T c with
    | .p (.c (.f (.bool t))) => brc t (fA (ev T a) fun v => K v [] H) (fA (ev T b) fun v => K v [] H)
    | _ => False
  | .alloc t =>
    match bldT P t with
    | some e => ∀ k : Nat, snocK H numbers (.bld t e k []) fun _ H' => K (cv (.hptr k)) [] H'
    | none => boxA H (zval P t) fun v H' => K v [] H'
  | .box _ x => boxA H (ev T x) fun v H' => K v [] H'
  | .build t parts => buildA P t (parts.toList.map fun p => (p.1, ev T p.2)) fun x => K x [] H
  | .load t a => loadA P H t (ev T a) fun x => K (.p x) [] H
  | .store t a x => storeA P H t (ev T a) (ev T x) fun H' => K undefA [] H'
  | .nilCheck x =>
    match ev T x with
    | .p (.c (.ptr r f)) => K (cv (.ptr r f)) [] H
    | .p (.c (.rptr r i f)) => K (cv (.rptr r i f)) [] H
    | .p (.c (.iptr r i j f)) => K (cv (.iptr r i j f)) [] H
    | _ => False
  | .binOp op t x y _ => binA P op t (isConst x || isConst y) (ev T x) (ev T y) fun z => K z [] H
  | .unOp op _ x => unA op (ev T x) fun z => K z [] H
  | .convert s d x => convA P s d (ev T x) fun z => K z [] H
  | .makeInterface t x => mkIfaceA P t (ev T x) fun z => K z [] H
  | .fieldAddr t x i => fieldAddrA P t (ev T x) i fun z => K z [] H
  | .field t x i => fieldA P t (ev T x) i fun z => K z [] H
  | .extract x i => extractA (ev T x) i fun z => K z [] H
  | .call c =>
    match c.callee with
    | .value f =>
      match ev T f with
      | .p (.c (.func g caps)) => evs T c.args.toList fun as => capsK caps fun cs => addK as cs fun l => Does P g l H K
      | _ => False
    | .builtin b => evs T c.args.toList fun as => builtinA P H b c.argTypes.toList as K
    | _ => False
  | .indexAddr t x i => indexAddrA P H t (ev T x) (ev T i) fun z => K z [] H
  | .index t x i => indexA P t (ev T x) (ev T i) fun z => K z [] H
  | .slice t x lo hi mx => sliceA P H t (ev T x) (lo.map (ev T)) (hi.map (ev T)) (mx.map (ev T)) fun z => K z [] H
  | .buildSlice t n parts =>
    match slc2 P t with
    | some sz => build2A P H t sz n (parts.toList.map fun p => (p.1, ev T p.2)) K
    | none => buildSliceA P H t n (parts.toList.map fun p => (p.1, ev T p.2)) fun v H' => K v [] H'
  | .makeSlice t l c => makeSliceA P H t (ev T l) (ev T c) fun v H' => K v [] H'
  | .makeMap t r => makeMapA H P t r fun v H' => K v [] H'
  | .lookup t x i ok => lookupA P H t (ev T x) (ev T i) ok fun z => K z [] H
  | .mapUpdate t x i y => updateA P H t (ev T x) (ev T i) (ev T y) fun H' => K undefA [] H'
  | .mapEntry t x i => entryA P H t (ev T x) (ev T i) fun v H' => K v [] H'
  | .entryStore _ x b y => entryStoreA H (ev T x) (ev T b) (ev T y) fun H' => K undefA [] H'
  | .range t x => rangeA P H t (ev T x) fun v H' => K v [] H'
  | .next x false => nextA H (ev T x) fun v H' => K v [] H'
  | .entry x => entAtA H (ev T x) fun v => K v [] H
  | .makeFunc f first caps =>
    match f, first.toList with
    | .func f, [] => evs T caps.toList fun as =>
      match capsOf as with
      | some l => K (cv (.func f l)) [] H
      | none => False
    | _, _ => False
  | _ => False

/-- One operation where the order is fixed: conversions into new rows, too. -/
def aopX (P : Program) (T : Tm) (H : List PO) (K : AV → List Nat → List PO → Prop) (op : Op) : Prop :=
  match op with
  | .convert s d x => convX P H s d (ev T x) fun v H' => K v [] H'
  | op => aop P T H K op

def killT (M : List Nat) (T : Tm) (k : Tm → Prop) : Prop :=
  match M with
  | [] => k T
  | M => k (T.map fun e => (e.1, killA M e.2))

def addM (M' M : List Nat) (k : List Nat → Prop) : Prop :=
  match M' with
  | [] => k M
  | M' => k (M' ++ M)

/-- Operations one behind the other. -/
def runOps (P : Program) (nt : Nat) (all : List Oper) : List Oper → Tm → List Nat → List PO → (Tm → List Nat → List PO → Prop) → Prop
  | [], T, M, H, K => K T M H
  | o :: rest, T, M, H, K =>
    match o.guard with
    | none => aopX P T H (fun v M' H' => killT M' T fun T' => putT nt T' o.dst v fun T'' => addM M' M fun M'' => runOps P nt all rest T'' M'' H' K) o.op
    | some (j, want) =>
      match (nth all j).bind (·.dst) with
      | some d =>
        match lk T d with
        | .p (.c (.f (.bool b))) =>
          brc b
            (match want with
              | true => aopX P ((d, bl true) :: T) H (fun v M' H' => killT M' ((d, bl true) :: T) fun T' => putT nt T' o.dst v fun T'' => addM M' M fun M'' => runOps P nt all rest T'' M'' H' K) o.op
              | false => putT nt ((d, bl true) :: T) o.dst undefA fun T'' => runOps P nt all rest T'' M H K)
            (match want with
              | false => aopX P ((d, bl false) :: T) H (fun v M' H' => killT M' ((d, bl false) :: T) fun T' => putT nt T' o.dst v fun T'' => addM M' M fun M'' => runOps P nt all rest T'' M'' H' K) o.op
              | true => putT nt ((d, bl false) :: T) o.dst undefA fun T'' => runOps P nt all rest T'' M H K)
        | .tup [] => putT nt T o.dst undefA fun T'' => runOps P nt all rest T'' M H K
        | _ => False
      | none => False

inductive Ex where
  | normal
  | exit (id : Nat)
  | ret

def Ex.real : Ex → Exit
  | .normal => .normal
  | .exit id => .exit id
  | .ret => .ret

/-- The temporaries fit. -/
structure TR (N : Nat) (L : Nat → Loc) (nt : Nat) (T : Tm) (a : Act) : Prop where
  get : ∀ i, VA N L (lk T i) (a.tmps.getD i undef)
  defers : a.defers = []
  room : nt ≤ a.tmps.size

/-- A STATEMENT DOES: whatever world the heap fits, and however it was laid when the function began. -/
structure SS (P : Program) (nt N0 : Nat) (c : Code) (T : Tm) (M : List Nat) (H : List PO) (Q : Ex → Tm → List Nat → List PO → Prop) : Prop where
  run : ∀ B R w0 L0 L w a R0, N0 ≤ H.length → Agree N0 M L0 L → Rel B R w0 L H w → TR H.length L nt T a →
    (∀ e L' T' M' H' w' a', N0 ≤ H'.length → Agree N0 M' L0 L' → Rel B R w0 L' H' w' → TR H'.length L' nt T' a' → Q e T' M' H' → R0 (Ex.real e) a' w') → c.wp P R0 a w

/-- May it be gone through to its end? -/
def falls : Code → Bool
  | .exit _ => false
  | .ret => false
  | .seq a b => falls a && falls b
  | .cond _ a b => falls a || falls b
  | _ => true

def plainCode : Code → Bool
  | .skip => true
  | _ => false

/-- Two ways that meet again. -/
def joins : Code → Bool
  | .cond _ a b => falls a && falls b
  | .block _ c => falls c && hasCond c
  | _ => false
where
  hasCond : Code → Bool
  | .cond _ _ _ => true
  | .seq a b => hasCond a || hasCond b
  | .block _ c => hasCond c
  | _ => false

/-- What is asked is known from then on. -/
def setC (c : Operand) (b : Bool) (T : Tm) : Tm :=
  match c with
  | .tmp d => (d, bl b) :: T
  | _ => T

def S (P : Program) (nt N0 : Nat) : Code → Tm → List Nat → List PO → (Ex → Tm → List Nat → List PO → Prop) → Prop
  | .skip, T, M, H, Q => Q .normal T M H
  | .label _, T, M, H, Q => Q .normal T M H
  | .region id ops draw, T, M, H, Q =>
    match draw with
    | false => runOps P nt ops.toList ops.toList T M H fun T' M' H' => Q .normal T' M' H'
    | true => SS P nt N0 (.region id ops true) T M H Q
  | .seq a b, T, M, H, Q =>
    match joins a with
    | false => S P nt N0 a T M H fun e T' M' H' => match e with
      | .normal => S P nt N0 b T' M' H' Q
      | e => Q e T' M' H'
    | true => SS P nt N0 (.seq a b) T M H Q
  | .cond c a b, T, M, H, Q => match ev T c with
    | .p (.c (.f (.bool t))) => brc t (S P nt N0 a (setC c true T) M H Q) (S P nt N0 b (setC c false T) M H Q)
    | _ => False
  | .block id c, T, M, H, Q => S P nt N0 c T M H fun e T' M' H' => match e with
    | .exit j => match Nat.beq j id with
      | true => Q .normal T' M' H'
      | false => Q (.exit j) T' M' H'
    | e => Q e T' M' H'
  | .loop c, T, M, H, Q => SS P nt N0 (.loop c) T M H Q
  | .exit id, T, M, H, Q => Q (.exit id) T M H
  | .ret, T, M, H, Q => Q .ret T M H
  | _, _, _, _, _ => False

/-- The result variables. -/
def resK (P : Program) (T : Tm) (H : List PO) : List ResultVar → (List AV → Prop) → Prop
  | [], K => K []
  | .tmp t :: rs, K => fA (lk T t) fun v => resK P T H rs fun vs => K (v :: vs)
  | .cell a t :: rs, K => loadA P H t (lk T a) fun v => resK P T H rs fun vs => K (.p v :: vs)

def pvs : List AV → Option (List PV)
  | [] => some []
  | .p x :: xs =>
    match pvs xs with
    | some l => some (x :: l)
    | none => none
  | _ :: _ => none

def tupA (vs : List AV) (K : AV → Prop) : Prop :=
  match vs with
  | [v] => K v
  | vs =>
    match pvs vs with
    | some l => K (.tup l)
    | none => False

/-! ### What is left of the heap -/

def lowC (n : Nat) : CV → Bool
  | .ptr r _ => Nat.blt r n
  | .rptr r _ _ => Nat.blt r n
  | .iptr r _ _ _ => Nat.blt r n
  | .slc r _ _ _ _ => Nat.blt r n
  | .islc r _ _ _ _ _ => Nat.blt r n
  | .map r => Nat.blt r n
  | .func _ cs => lows cs
  | .iface _ x => lowC n x
  | _ => true
where
  lows : List Nat → Bool
  | [] => true
  | r :: rs => bif Nat.blt r n then lows rs else false

def lowCs (n : Nat) : List CV → Bool
  | [] => true
  | x :: xs => bif lowC n x then lowCs n xs else false

def lowP (n : Nat) : PV → Bool
  | .c x => lowC n x
  | .agg cs => lowCs n cs

def lowPs (n : Nat) : List PV → Bool
  | [] => true
  | x :: xs => bif lowP n x then lowPs n xs else false

def lowA (n : Nat) : AV → Bool
  | .u => true
  | .p x => lowP n x
  | .tup xs => lowPs n xs

def lowO (n : Nat) : PO → Bool
  | .one cs => lowCs n cs
  | .it d m _ _ _ => bif d then true else Nat.blt m n
  | _ => true

def lowH (n : Nat) : List PO → Bool
  | [] => true
  | o :: os => bif lowO n o then lowH n os else false

def lowT (n : Nat) : Tm → Bool
  | [] => true
  | e :: es => bif lowA n e.2 then lowT n es else false

def lenK {α : Type} : List α → List Nat → (Nat → Prop) → Prop
  | _, [], _ => False
  | [], n :: _, k => k n
  | _ :: xs, _ :: ns, k => lenK xs ns k

theorem lenK_spec' {α : Type} : ∀ (l : List α) (m s : Nat) (k : Nat → Prop), lenK l (List.range' s m) k → k (s + l.length)
  | [], 0, _, _, h => h.elim
  | [], m + 1, s, k, h => by simpa [List.range'_succ, lenK] using h
  | _ :: _, 0, _, _, h => h.elim
  | x :: xs, m + 1, s, k, h => by
    simp only [List.range'_succ, lenK] at h
    have := lenK_spec' xs m (s + 1) _ h
    simpa [Nat.add_assoc, Nat.add_comm 1] using this

theorem lenK_spec {α : Type} {l : List α} {k : Nat → Prop} (h : lenK l numbers k) : k l.length := by
  rw [numbers_eq] at h
  simpa using lenK_spec' l 100 0 k h

def ltM (n : Nat) : List Nat → List Nat
  | [] => []
  | r :: rs => bif Nat.blt r n then r :: ltM n rs else ltM n rs

/-- What a call made that nobody can ask any more is forgotten. -/
def endK (N0 : Nat) (v : AV) (M : List Nat) (H : List PO) (K : AV → List Nat → List PO → Prop) : Prop :=
  takeK H 0 N0 fun H0 =>
    match lowA N0 v, lowH N0 H0 with
    | true, true => K v (ltM N0 M) H0
    | _, _ => K v (ltM N0 M) H

def startK : List AV → List Nat → (Tm → Prop) → Prop
  | [], _, k => k []
  | _ :: _, [], _ => False
  | x :: xs, n :: ns, k => startK xs ns fun T => k ((n, x) :: T)

/-- A function's body. -/
def FnB (P : Program) (fn : Func) (c : Code) (args : List AV) (H : List PO) (K : AV → List Nat → List PO → Prop) : Prop :=
  lenK H numbers fun N0 => startK args numbers fun T => S P fn.ntmps N0 c T [] H fun e T' M' H' =>
    match e with
    | .exit _ => False
    | _ => resK P T' H' fn.results.toList fun vs => tupA vs fun v => endK N0 v M' H' K

end Go.Mac
end

/- The machine of abstract values, part 3: operands, loads, stores and new objects are what they are said to be. -/
section
namespace Go.Mac
open Go

section tables
variable {P : Program} {t : TypeId} {w : World}

theorem run_underlying_some {d : TypeDesc} (h : P.underlying t = some d) : (underlying t).run P w = .ok d w := by simp [underlying, h]

theorem run_sizeOf_some (h : (P.info? t).isSome = true) : (sizeOf t).run P w = .ok (szOf P t) w := by
  obtain ⟨i, hi⟩ := Option.isSome_iff_exists.1 h
  simp [sizeOf, typeInfo, hi, szOf]

theorem run_isAgg_some {b : Bool} (h : aggT P t = some b) : (isAgg t).run P w = .ok b w := by
  simp only [aggT, Option.map_eq_some_iff] at h
  obtain ⟨d, hd, hb⟩ := h
  simp only [isAgg, Sem.run_bind, run_underlying_some hd, Result.andThen_ok]
  cases d <;> simp at hb <;> subst hb <;> rfl

theorem run_zeroValue_some {z : Value} (h : (P.info? t).bind (·.zero) = some z) : (zeroValue t).run P w = .ok z w := by
  cases hi : P.info? t with
  | none => simp [hi] at h
  | some i => simp [hi] at h; simp [zeroValue, typeInfo, hi, h]
end tables

section vals
variable {N : Nat} {L : Nat → Loc}

theorem cvOf_ok {v : Value} {x : CV} (h : cvOf v = some x) : VC N L x v := by
  unfold cvOf at h
  split at h <;> simp at h <;> subst h <;> simp [VC, FC.val]

theorem cvsOf_ok : ∀ {l : List Value} {xs : List CV}, cvsOf l = some xs → VCs N L xs l
  | [], xs, h => by simp [cvsOf] at h; subst h; rfl
  | v :: l, xs, h => by
    simp only [cvsOf] at h
    split at h <;> simp at h
    rename_i x ys hx hys
    subst h
    exact ⟨v, l, rfl, cvOf_ok hx, cvsOf_ok hys⟩

theorem avOf_ok (v : Value) : VA N L (avOf v) v := by
  unfold avOf
  split
  · split
    · rename_i cs _ l hl
      exact ⟨cs.toList, by simp, cvsOf_ok hl⟩
    · trivial
  · split
    · rename_i x hx; exact cvOf_ok hx
    · trivial

theorem TR.eval {nt : Nat} {T : Tm} {a : Act} (h : TR N L nt T a) (x : Operand) : VA N L (ev T x) (a.eval x) := by
  cases x with
  | tmp t =>
    have := h.get t
    simp only [ev, Act.eval]
    simpa [Array.getD_eq_getD_getElem?] using this
  | const v => exact avOf_ok v
  | global g => exact rfl
  | func f => exact ⟨by simp, rfl⟩

theorem lk_cons (j : Nat) (x : AV) (T : Tm) (i : Nat) : lk ((j, x) :: T) i = if j = i then x else lk T i := by
  simp only [lk, cond_eq_ite]
  by_cases h : j = i
  · simp [h]
  · have : Nat.beq j i = false := by cases hb : Nat.beq j i <;> simp_all [Nat.beq_eq]
    simp [h, this]

theorem putT_spec {nt : Nat} {T : Tm} {d : Option Tmp} {x : AV} {k : Tm → Prop} (h : putT nt T d x k) {a : Act} (ht : TR N L nt T a) {v : Value} (hv : VA N L x v) :
    ∃ T', k T' ∧ TR N L nt T' (a.put d v) := by
  cases d with
  | none => exact ⟨T, h, ht⟩
  | some d =>
    simp only [putT, cond_eq_ite] at h
    split at h
    · rename_i hd
      have hd : d < nt := by simpa [Nat.blt_eq] using hd
      refine ⟨_, h, fun i => ?_, ht.defers, ?_⟩
      rotate_left
      · have := ht.room; simp only [Act.put, Array.size_setIfInBounds]; exact this
      rw [lk_cons]
      have hsz := ht.room
      split
      · rename_i hdi
        subst hdi
        have : d < a.tmps.size := Nat.lt_of_lt_of_le hd hsz
        simpa [Act.put, Array.getD_eq_getD_getElem?, this] using hv
      · rename_i hdi
        have := ht.get i
        simpa [Act.put, Array.getD_eq_getD_getElem?, Array.getElem?_setIfInBounds_ne hdi] using this
    · exact h.elim

theorem lk_map (M : List Nat) : ∀ (T : Tm) (i : Nat), lk (T.map fun e => (e.1, killA M e.2)) i = killA M (lk T i)
  | [], i => rfl
  | (j, x) :: T, i => by
    simp only [List.map_cons, lk_cons, lk_map M T i]
    split <;> rfl

theorem TR.kill {nt N' : Nat} {L' : Nat → Loc} {T : Tm} {M : List Nat} {k : Tm → Prop} {a : Act} (h : killT M T k) (ht : TR N L nt T a) (hN : N ≤ N') (hL : Agree N M L L') :
    ∃ T', k T' ∧ TR N' L' nt T' a := by
  have key : TR N' L' nt (T.map fun e => (e.1, killA M e.2)) a := ⟨fun i => by rw [lk_map]; exact (ht.get i).mono hN hL, ht.defers, ht.room⟩
  cases M with
  | nil =>
    refine ⟨T, h, ?_⟩
    have : (T.map fun e => (e.1, killA [] e.2)) = T := by
      conv => rhs; rw [← List.map_id T]
      exact List.map_congr_left fun e _ => by simp [killA_nil]
    rwa [this] at key
  | cons m M => exact ⟨_, h, key⟩

end vals

theorem Addr.add_none (a : Addr) (n : Nat) (h : a.spot = none) : a.add n = ⟨a.block, a.off + n, none⟩ := by
  cases a with
  | mk b o s => simp at h; subst h; unfold Addr.add; split <;> simp_all

theorem run_loadCellsFrom' {P : Program} {w : World} {a : Addr} (hs : a.spot = none) : ∀ (vs : List Value) (i : Nat) (acc : Array Value),
    (∀ (j : Nat) (v : Value), vs[j]? = some v → w.cell? ⟨a.block, a.off + i + j, none⟩ = some v) → (loadCellsFrom a i vs.length acc).run P w = .ok (acc ++ vs.toArray) w
  | [], i, acc, _ => by simp [loadCellsFrom]
  | v :: vs, i, acc, h => by
    have h0 := h 0 v rfl
    simp only [Nat.add_zero] at h0
    have ih := run_loadCellsFrom' (P := P) (w := w) hs vs (i + 1) (acc.push v) fun j u hu => by
      have := h (j + 1) u (by simpa using hu)
      rwa [show a.off + i + (j + 1) = a.off + (i + 1) + j by omega] at this
    simp only [List.length_cons, loadCellsFrom, Sem.run_bind, run_load, Addr.add_none a i hs, h0, Result.andThen_ok, ih]
    congr 1
    apply Array.ext'
    simp

theorem run_loadCells' {P : Program} {w : World} {a : Addr} (hs : a.spot = none) (vs : List Value)
    (h : ∀ (j : Nat) (v : Value), vs[j]? = some v → w.cell? ⟨a.block, a.off + j, none⟩ = some v) : (loadCells a vs.length).run P w = .ok vs.toArray w := by
  have := run_loadCellsFrom' (P := P) (w := w) hs vs 0 #[] (by simpa using h)
  simpa [loadCells] using this

theorem one_cell' {v : Value} (h : OneCell v = true) : v.oneCell' = true := by cases v <;> first | rfl | simp [OneCell] at h

theorem run_storeCells' {P : Program} {a : Addr} (hs : a.spot = none) {t : TypeId} {fr : Nat × Nat} : ∀ (vs : List Value) (w : World) (c : Array Value) (i : Nat),
    w.heap[a.block]? = some (.cells c t fr) → a.off + i + vs.length ≤ c.size → (∀ j, j < c.size → ¬ (fr.1 ≤ j ∧ j < fr.2)) → (∀ v ∈ vs, OneCell v = true) →
    ∃ w' c', (storeCells a vs i).run P w = .ok () w' ∧ Bel (fun k => k ≠ a.block) w w' ∧ (∀ k, k ≠ a.block → w'.heap[k]? = w.heap[k]?) ∧ w'.heap.size = w.heap.size ∧
      w'.heap[a.block]? = some (.cells c' t fr) ∧ c'.size = c.size ∧ (∀ j, (j < a.off + i ∨ a.off + i + vs.length ≤ j) → c'[j]? = c[j]?) ∧
      (∀ (j : Nat) (v : Value), vs[j]? = some v → c'[a.off + i + j]? = some v)
  | [], w, c, i, hh, _, _, _ => ⟨w, c, rfl, Bel.refl _ _, fun _ _ => rfl, rfl, hh, rfl, fun _ _ => rfl, by simp⟩
  | v :: vs, w, c, i, hh, hsz, hfr, h1 => by
    simp only [List.length_cons] at hsz
    have hlt : a.off + i < c.size := by omega
    have hcell : w.cell? ⟨a.block, a.off + i, none⟩ = some c[a.off + i] := by simp [World.cell?, hh, hlt]
    have hnf : w.frozen? ⟨a.block, a.off + i, none⟩ = false := by
      have := hfr (a.off + i) hlt
      simp only [World.frozen?, hh]
      simpa using this
    have hst : (store (a.add i) v).run P w = .ok () (w.setCell ⟨a.block, a.off + i, none⟩ v) := by
      rw [run_store P w _ v _ (one_cell' (h1 v (by simp))), Addr.add_none a i hs, hcell]
      simp [hnf]
    have hblk : (w.setCell ⟨a.block, a.off + i, none⟩ v).heap[a.block]? = some (.cells (c.setIfInBounds (a.off + i) v) t fr) := by
      simp [World.setCell, Array.getElem?_modify, hh]
    obtain ⟨w', c', hr, hb, hk, hz, hb', hc', hout, hin⟩ := run_storeCells' (P := P) hs vs (w.setCell ⟨a.block, a.off + i, none⟩ v) (c.setIfInBounds (a.off + i) v) (i + 1)
      hblk (by simp; omega) (by simpa using hfr) (fun u hu => h1 u (by simp [hu]))
    refine ⟨w', c', ?_, ?_, ?_, ?_, hb', ?_, ?_, ?_⟩
    · simp only [storeCells, Sem.run_bind, hst, Result.andThen_ok, hr]
    · exact (Bel.setCell (p := ⟨a.block, a.off + i, none⟩) (Bel.refl _ _) (by simp) v).trans hb
    · intro k hk'
      rw [hk k hk', heap_setCell_ne w ⟨a.block, a.off + i, none⟩ v k hk']
    · rw [hz]; simp
    · rw [hc']; simp
    · intro j hj
      rw [hout j (by simp only [List.length_cons] at hj; omega)]
      rw [Array.getElem?_setIfInBounds_ne (by simp only [List.length_cons] at hj; omega)]
    · intro j u hu
      cases j with
      | zero =>
        simp at hu; subst hu
        rw [hout _ (by omega)]
        simp [hlt]
      | succ j =>
        simp at hu
        have := hin j u hu
        rwa [show a.off + (i + 1) + j = a.off + i + (j + 1) by omega] at this

theorem splice_length {α : Type} : ∀ (cs row : List α) (f : Nat), (splice row f cs).length = row.length
  | [], _, _ => rfl
  | x :: xs, row, f => by simp [splice, splice_length xs]

theorem splice_get {α : Type} : ∀ (cs row : List α) (f k : Nat), f + cs.length ≤ row.length →
    (splice row f cs)[k]? = if f ≤ k ∧ k < f + cs.length then cs[k - f]? else row[k]?
  | [], row, f, k, _ => by
    simp only [splice, List.length_nil]
    rw [if_neg (by omega)]
  | x :: xs, row, f, k, h => by
    simp only [List.length_cons] at h
    simp only [splice]
    rw [splice_get xs (row.set f x) (f + 1) k (by simp; omega)]
    by_cases h1 : k = f
    · subst h1
      rw [if_neg (by omega), if_pos (by simp), Nat.sub_self, List.getElem?_set_self (by omega)]
      rfl
    · by_cases h2 : f + 1 ≤ k ∧ k < f + 1 + xs.length
      · rw [if_pos h2, if_pos (by simp; omega)]
        obtain ⟨d, hd⟩ : ∃ d, k - f = d + 1 := ⟨k - f - 1, by omega⟩
        rw [hd, show k - (f + 1) = d by omega]
        simp
      · rw [if_neg h2, if_neg (by simp; omega), List.getElem?_set_ne (by omega)]

/-- Two cells of rows: of one row, or apart. -/
theorem rows_apart {i i' f f' sz n : Nat} (hi : i' ≠ i) (hf : f' < sz) (hn : f + n ≤ sz) : i' * sz + f' < i * sz + f ∨ i * sz + f + n ≤ i' * sz + f' := by
  rcases Nat.lt_or_gt_of_ne hi with h | h
  · left
    have : (i' + 1) * sz ≤ i * sz := Nat.mul_le_mul_right _ h
    rw [Nat.add_mul] at this
    omega
  · right
    have : (i + 1) * sz ≤ i' * sz := Nat.mul_le_mul_right _ h
    rw [Nat.add_mul] at this
    omega

theorem row_in {i n f sz : Nat} (hi : i < n) (hf : f ≤ sz) : i * sz + f ≤ n * sz := by
  have : (i + 1) * sz ≤ n * sz := Nat.mul_le_mul_right _ hi
  rw [Nat.add_mul] at this
  omega

section
variable {B R : Nat → Prop} {w0 : World} {N : Nat} {L : Nat → Loc} {H : List PO} {w : World} {P : Program}

theorem run_loadAt_cell {t : TypeId} {ad : Addr} {u : Value} (hagg : aggT P t = some false) (h : w.cell? ad = some u) : (Instr.loadAt t (.pointer (some ad))).run P w = .ok u w := by
  simp [Instr.loadAt, Instr.sureAddr, loadVar, run_isAgg_some hagg, h]

theorem run_loadAt_agg {t : TypeId} {ad : Addr} {vs : List Value} (hs : ad.spot = none) (hagg : aggT P t = some true) (hinfo : (P.info? t).isSome = true) (hl : vs.length = szOf P t)
    (h : ∀ (j : Nat) (v : Value), vs[j]? = some v → w.cell? ⟨ad.block, ad.off + j, none⟩ = some v) : (Instr.loadAt t (.pointer (some ad))).run P w = .ok (.agg vs.toArray) w := by
  have hlc := run_loadCells' (P := P) (w := w) hs vs h
  simp only [Instr.loadAt, Instr.sureAddr, loadVar, Sem.run_bind, Sem.run_pure, Result.andThen_ok, run_isAgg_some hagg, if_true, run_sizeOf_some hinfo]
  rw [← hl, hlc]
  rfl

/-- Cells that are related, one by one, as a list of values. -/
theorem gather_cells (xs : List CV) (ad : Nat → Addr) (h : ∀ (j : Nat) (x : CV), xs[j]? = some x → ∃ v, w.cell? (ad j) = some v ∧ VC N L x v) :
    ∃ vs : List Value, vs.length = xs.length ∧ VCs N L xs vs ∧ ∀ (j : Nat) (v : Value), vs[j]? = some v → w.cell? (ad j) = some v := by
  let vs := (List.range xs.length).map fun g => (w.cell? (ad g)).getD undef
  have hget : ∀ (j : Nat) (v : Value), vs[j]? = some v → w.cell? (ad j) = some v ∧ ∀ x, xs[j]? = some x → VC N L x v := by
    intro j v hv
    have hlt : j < xs.length := by have := (List.getElem?_eq_some_iff.1 hv).1; simpa [vs] using this
    obtain ⟨u, hu, hur⟩ := h j xs[j] (by simp [hlt])
    simp only [vs, List.getElem?_map, List.getElem?_range hlt, Option.map_some, hu, Option.getD_some, Option.some.injEq] at hv
    subst hv
    refine ⟨hu, fun x hx => ?_⟩
    simp [hlt] at hx
    subst hx
    exact hur
  exact ⟨vs, by simp [vs], VCs.of_get (by simp [vs]) fun i x v hx hv => (hget i v hv).2 x hx, fun j v hv => (hget j v hv).1⟩

theorem tabOf_spec {g : Nat} {vs : List FC} : ∀ {H : List PO}, tabOf H g = some vs → ∃ r : Nat, H[r]? = some (PO.tab g vs)
  | o :: H, h => by
    unfold tabOf at h
    split at h
    · cases h
    · rename_i heq
      cases heq
      simp only [cond_eq_ite] at h
      split at h
      · rename_i hb
        obtain rfl := Nat.eq_of_beq_eq_true hb
        cases h
        exact ⟨0, rfl⟩
      · obtain ⟨r, hr⟩ := tabOf_spec h
        exact ⟨r + 1, hr⟩
    · rename_i heq
      cases heq
      obtain ⟨r, hr⟩ := tabOf_spec h
      exact ⟨r + 1, hr⟩

theorem load_sound (h : Rel B R w0 L H w) {t : TypeId} {x : AV} {v : Value} (hx : VA H.length L x v) {K : PV → Prop} (hl : loadA P H t x K) :
    ∃ y u, (Instr.loadAt t v).run P w = .ok u w ∧ VP H.length L y u ∧ K y := by
  unfold loadA at hl
  split at hl <;> try exact hl.elim
  · -- of a box
    rename_i r f
    obtain ⟨hr, rfl⟩ := hx
    rw [nth_eq] at hl
    split at hl <;> try exact hl.elim
    rename_i cs hcs
    obtain ⟨hb, hsz, _, _, hc⟩ := h.obj r _ hcs
    have hat : ∀ f, (L r).h.at 0 f = ⟨(L r).h.blk, f, none⟩ := fun f => by simp [ILoc.at, hb]
    split at hl
    · rename_i hagg
      simp only [cond_eq_ite] at hl
      split at hl <;> try exact hl.elim
      rename_i hinfo
      obtain ⟨hle, hK⟩ := takeK_spec _ _ _ _ hl
      obtain ⟨vs, h1, h2, h3⟩ := gather_cells (N := H.length) (L := L) (w := w) ((cs.drop f).take (szOf P t)) (fun j => ⟨(L r).h.blk, f + j, none⟩) fun j x hj => by
        rw [List.getElem?_take] at hj
        split at hj
        · rw [List.getElem?_drop] at hj
          obtain ⟨v, hv, hvr⟩ := hc _ _ hj
          exact ⟨v, by rw [hat] at hv; exact hv, hvr⟩
        · cases hj
      have hlen : vs.length = szOf P t := by rw [h1]; simp; omega
      refine ⟨.agg _, .agg vs.toArray, run_loadAt_agg rfl hagg hinfo hlen fun j v hv => ?_, ⟨vs, rfl, h2⟩, hK⟩
      rw [hat]
      exact h3 j v hv
    · rename_i hagg
      rw [nth_eq] at hl
      split at hl <;> try exact hl.elim
      rename_i y hy
      obtain ⟨u, hu, hur⟩ := hc _ _ hy
      exact ⟨.c y, u, run_loadAt_cell hagg hu, hur, hl⟩
    · exact hl.elim
  · rename_i r i f
    obtain ⟨hr, rfl⟩ := hx
    rw [nth_eq] at hl
    split at hl <;> try exact hl.elim
    · rename_i ro sz rs hrs
      obtain ⟨hsz, _, _, _, hc⟩ := h.obj r _ hrs
      split at hl
      · rename_i hagg
        simp only [cond_eq_ite] at hl
        split at hl <;> try exact hl.elim
        rename_i hinfo
        obtain ⟨row, hrow, hl⟩ := hl
        obtain ⟨hle, hK⟩ := takeK_spec _ _ _ _ hl
        rw [fmapK_eq] at hK
        obtain ⟨vs, h1, h2, h3⟩ := gather_cells (N := H.length) (L := L) (w := w) (((row.drop f).take (szOf P t)).map .f) (fun j => (L r).h.at i (f + j)) fun j x hj => by
          rw [List.getElem?_map, Option.map_eq_some_iff] at hj
          obtain ⟨y, hj, rfl⟩ := hj
          rw [List.getElem?_take] at hj
          split at hj
          · rw [List.getElem?_drop] at hj
            exact ⟨_, (hc i row hrow).2 _ _ hj, rfl⟩
          · cases hj
        have hlen : vs.length = szOf P t := by rw [h1]; simp; omega
        refine ⟨.agg _, .agg vs.toArray, run_loadAt_agg rfl hagg hinfo hlen fun j v hv => ?_, ⟨vs, rfl, h2⟩, hK⟩
        have := h3 j v hv
        simpa [ILoc.at, Nat.add_assoc] using this
      · rename_i hagg
        obtain ⟨row, y, hrow, hy, hK⟩ := hl
        exact ⟨.c (.f y), y.val, run_loadAt_cell hagg ((hc i row hrow).2 f y hy), rfl, hK⟩
      · exact hl.elim
    · rename_i ro sz rss hrs
      obtain ⟨_, _, _, hc, _⟩ := h.obj r _ hrs
      split at hl <;> try exact hl.elim
      rename_i hagg
      obtain ⟨rs, hi, hK⟩ := hl
      obtain ⟨_, u, hu, hur⟩ := hc i rs hi
      exact ⟨.c (.islc r i 0 rs.length none false), u, run_loadAt_cell hagg hu, ⟨hr, hur⟩, hK⟩
    · rename_i sz es hrs
      obtain ⟨_, _, _, hc⟩ := h.obj r _ hrs
      split at hl <;> try exact hl.elim
      rename_i hagg
      obtain ⟨l, rs, hi, hK⟩ := hl
      obtain ⟨_, ⟨u, hu, hur⟩, _⟩ := hc i _ hi
      exact ⟨.c (.hslc r i l rs.length), u, run_loadAt_cell hagg hu, hur, hK⟩
  · rename_i r i j f
    obtain ⟨hr, rfl⟩ := hx
    rw [nth_eq] at hl
    split at hl <;> try exact hl.elim
    rename_i ro sz rss hrs
    obtain ⟨_, _, _, hc, _⟩ := h.obj r _ hrs
    split at hl
    · rename_i hagg
      simp only [cond_eq_ite] at hl
      split at hl <;> try exact hl.elim
      rename_i hinfo
      obtain ⟨rs, row, hi, hrow, hl⟩ := hl
      obtain ⟨hle, hK⟩ := takeK_spec _ _ _ _ hl
      rw [fmapK_eq] at hK
      obtain ⟨⟨_, _, _, _, hc⟩, _⟩ := hc i rs hi
      obtain ⟨vs, h1, h2, h3⟩ := gather_cells (N := H.length) (L := L) (w := w) (((row.drop f).take (szOf P t)).map .f) (fun g => ((L r).inn i).at j (f + g)) fun g x hj => by
        rw [List.getElem?_map, Option.map_eq_some_iff] at hj
        obtain ⟨y, hj, rfl⟩ := hj
        rw [List.getElem?_take] at hj
        split at hj
        · rw [List.getElem?_drop] at hj
          exact ⟨_, (hc j row hrow).2 _ _ hj, rfl⟩
        · cases hj
      have hlen : vs.length = szOf P t := by rw [h1]; simp; omega
      refine ⟨.agg _, .agg vs.toArray, run_loadAt_agg rfl hagg hinfo hlen fun j v hv => ?_, ⟨vs, rfl, h2⟩, hK⟩
      have := h3 j v hv
      simpa [ILoc.at, Nat.add_assoc] using this
    · rename_i hagg
      obtain ⟨rs, row, y, hi, hrow, hy, hK⟩ := hl
      obtain ⟨⟨_, _, _, _, hc⟩, _⟩ := hc i rs hi
      exact ⟨.c (.f y), y.val, run_loadAt_cell hagg ((hc j row hrow).2 f y hy), rfl, hK⟩
    · exact hl.elim
  · rename_i g i
    obtain rfl := hx
    split at hl <;> try exact hl.elim
    rename_i vs htab
    obtain ⟨r, hr⟩ := tabOf_spec htab
    obtain ⟨tt, fr, hb⟩ : ∃ tt fr, w.heap[g]? = some (.cells (vs.map FC.val).toArray tt fr) := h.obj r _ hr
    have hcell : ∀ (j : Nat) (y : FC), vs[j]? = some y → w.cell? ⟨g, j, none⟩ = some y.val := fun j y hy => by
      simp only [World.cell?, hb]
      simp [hy]
    split at hl
    · rename_i hagg
      simp only [cond_eq_ite] at hl
      split at hl <;> try exact hl.elim
      rename_i hinfo
      obtain ⟨hle, hK⟩ := takeK_spec _ _ _ _ hl
      rw [fmapK_eq] at hK
      obtain ⟨us, h1, h2, h3⟩ := gather_cells (N := H.length) (L := L) (w := w) (((vs.drop i).take (szOf P t)).map .f) (fun j => ⟨g, i + j, none⟩) fun j x hj => by
        rw [List.getElem?_map, Option.map_eq_some_iff] at hj
        obtain ⟨y, hj, rfl⟩ := hj
        rw [List.getElem?_take] at hj
        split at hj
        · rw [List.getElem?_drop] at hj
          exact ⟨_, hcell _ _ hj, rfl⟩
        · cases hj
      have hlen : us.length = szOf P t := by rw [h1]; simp; omega
      exact ⟨.agg _, .agg us.toArray, run_loadAt_agg rfl hagg hinfo hlen fun j v hv => h3 j v hv, ⟨us, rfl, h2⟩, hK⟩
    · rename_i hagg
      obtain ⟨y, hy, hK⟩ := hl
      exact ⟨.c (.f y), y.val, run_loadAt_cell hagg (hcell i y hy), rfl, hK⟩
    · exact hl.elim

/-- Cells are laid into a block of one's own. -/
theorem store_cells2 (h : Rel B R w0 L H w) {r : Nat} {o o' : PO} (hr : H[r]? = some o) {b off n : Nat} (hb : Own o (L r) b) (hO : ∀ b, Own o' (L r) b ↔ Own o (L r) b) (hRo : ∀ b, Ro o' (L r) b ↔ Ro o (L r) b)
    (hc : Cells w b n) (us : List Value) (h1 : ∀ v ∈ us, OneCell v = true) (hle : off + us.length ≤ n)
    (hOR : ∀ w', (∀ k, k ≠ b → w'.heap[k]? = w.heap[k]?) → Cells w' b n →
      (∀ j, (j < off ∨ off + us.length ≤ j) → w'.cell? ⟨b, j, none⟩ = w.cell? ⟨b, j, none⟩) → (∀ (j : Nat) (v : Value), us[j]? = some v → w'.cell? ⟨b, off + j, none⟩ = some v) → OR H.length L w' o' (L r)) :
    ∃ w', (storeCells ⟨b, off, none⟩ us 0).run P w = .ok () w' ∧ Rel B R w0 L (H.set r o') w' ∧ ∀ (j : Nat) (v : Value), us[j]? = some v → w'.cell? ⟨b, off + j, none⟩ = some v := by
  obtain ⟨c, t, fr, hblk, hsz, hfr⟩ := hc
  obtain ⟨hB, hlt, hu⟩ := h.own r o b hr hb
  obtain ⟨w', c', hrun, hbel, hk, hz, hb', hc', hout, hin⟩ := run_storeCells' (P := P) (a := ⟨b, off, none⟩) rfl us w c 0 hblk (by simpa [hsz] using hle) hfr h1
  have hcell : ∀ j, w'.cell? ⟨b, j, none⟩ = c'[j]? := fun j => by
    have : w'.heap[b]? = some (.cells c' t fr) := hb'
    simp [World.cell?, this]
  have hcell0 : ∀ j, w.cell? ⟨b, j, none⟩ = c[j]? := fun j => by simp [World.cell?, hblk]
  refine ⟨w', hrun, ?_, fun j v hj => by rw [hcell]; exact by simpa using hin j v hj⟩
  refine h.put (M := []) r o' (by simp) (List.getElem?_set_self (List.getElem?_eq_some_iff.1 hr).1) (fun j hj o1 ho1 => ?_) (Agree.refl _ _ _) (fun _ _ => rfl)
    ⟨hbel.os, hbel.tape, hbel.output, hbel.size, fun q hq => hbel.block q (fun e => hB (by rw [show q = b from e] at hq; exact hq))⟩ (fun q hq => ?_) (fun q hq => ?_) (fun q hq => h.ro r o q hr ((hRo q).1 hq)) ?_
  · rw [List.getElem?_set_ne (Ne.symm hj)] at ho1
    exact ⟨o1, ho1, (killO_nil o1).symm⟩
  · by_cases hqb : q = b
    · exact .inr ⟨o, hr, hqb ▸ hb⟩
    · exact .inl (hk q hqb)
  · have hq' := (hO q).1 hq
    obtain ⟨e1, e2, _⟩ := h.own r o q hr hq'
    exact ⟨e1, by omega, .inr ⟨o, hr, hq'⟩⟩
  · rw [List.length_set]
    refine hOR w' hk ⟨c', t, fr, hb', by rw [hc', hsz], by rw [hc']; exact hfr⟩ (fun j hj => ?_) fun j v hj => ?_
    · rw [hcell, hcell0, hout j (by simpa using hj)]
    · rw [hcell]; exact by simpa using hin j v hj

theorem store_cells (h : Rel B R w0 L H w) {r : Nat} {o o' : PO} (hr : H[r]? = some o) {b off n : Nat} (hb : Own o (L r) b) (hO : ∀ b, Own o' (L r) b ↔ Own o (L r) b) (hRo : ∀ b, Ro o' (L r) b ↔ Ro o (L r) b)
    (hc : Cells w b n) (us : List Value) (h1 : ∀ v ∈ us, OneCell v = true) (hle : off + us.length ≤ n)
    (hOR : ∀ w', (∀ k, k ≠ b → w'.heap[k]? = w.heap[k]?) → Cells w' b n →
      (∀ j, (j < off ∨ off + us.length ≤ j) → w'.cell? ⟨b, j, none⟩ = w.cell? ⟨b, j, none⟩) → (∀ (j : Nat) (v : Value), us[j]? = some v → w'.cell? ⟨b, off + j, none⟩ = some v) → OR H.length L w' o' (L r)) :
    ∃ w', (storeCells ⟨b, off, none⟩ us 0).run P w = .ok () w' ∧ Rel B R w0 L (H.set r o') w' := by
  obtain ⟨w', h1, h2, _⟩ := store_cells2 (P := P) h hr hb hO hRo hc us h1 hle hOR
  exact ⟨w', h1, h2⟩

theorem fcs_spec : ∀ {xs : List CV} {ys : List FC}, fcs xs = some ys → xs = ys.map .f
  | [], ys, h => by simp [fcs] at h; subst h; rfl
  | x :: xs, ys, h => by
    cases x <;> simp only [fcs] at h <;> try cases h
    split at h <;> simp at h
    rename_i l hl
    subst h
    simp [fcs_spec hl]

theorem VCs.all_one : ∀ {xs : List CV} {vs : List Value}, VCs N L xs vs → ∀ v ∈ vs, OneCell v = true
  | [], _, h, v, hv => by simp [VCs] at h; subst h; simp at hv
  | _ :: _, _, ⟨y, ys, h1, h2, h3⟩, v, hv => by
    subst h1
    rcases List.mem_cons.1 hv with rfl | hv
    · exact h2.oneCell
    · exact VCs.all_one h3 v hv

theorem Hdr.weak {h : ILoc} {o n : Nat} {c : Option Nat} {nn : Bool} {v : Value} : Hdr h o n c nn v → Hdr h o n c false v
  | .inl h => .inl ⟨rfl, h.2⟩
  | .inr h => .inr h

theorem set_was {α : Type} {l : List α} {r : Nat} {x : α} (h : l[r]? = some x) : l.set r x = l := List.ext_getElem? fun j => by
  by_cases hj : j = r
  · subst hj; rw [List.getElem?_set_self (List.getElem?_eq_some_iff.1 h).1, h]
  · rw [List.getElem?_set_ne (Ne.symm hj)]

/-- Rows become one of the slices. -/
theorem put3 (h : Rel B R w0 L H w) {r r2 sz i : Nat} {es : List (Option (ILoc × List (List FC)))} {rs : List (List FC)} {nn : Bool} {v : Value} (hr : H[r]? = some (.rows3 true sz es)) (hr2 : H[r2]? = some (.rows false sz rs)) (hne : r ≠ r2) (hi : es[i]? = some none)
    (hv : w.cell? ((L r).h.at i 0) = some v) (hh : Hdr (L r2).h 0 rs.length none nn v) : Rel B R w0 L ((H.set r (.rows3 true sz (es.set i (some ((L r2).h, rs))))).set r2 .gone) w := by
  have hrl := (List.getElem?_eq_some_iff.1 hr).1
  have hil := (List.getElem?_eq_some_iff.1 hi).1
  obtain ⟨c1, c2, c3, c4⟩ := h.obj r _ hr
  have hget : ∀ (j : Nat) (p : ILoc × List (List FC)), (es.set i (some ((L r2).h, rs)))[j]? = some (some p) → (j = i ∧ p = ((L r2).h, rs)) ∨ (j ≠ i ∧ es[j]? = some (some p)) := fun j p hj => by
    by_cases e : j = i
    · subst e
      rw [List.getElem?_set_self hil] at hj
      exact .inl ⟨rfl, (Option.some.inj (Option.some.inj hj)).symm⟩
    · rw [List.getElem?_set_ne (Ne.symm e)] at hj
      exact .inr ⟨e, hj⟩
  have own2 : (L r2).h.cap ≠ 0 → Own (.rows false sz rs) (L r2) (L r2).h.blk := fun hc => ⟨hc, rfl⟩
  have apart : ∀ b, Own (.rows3 true sz es) (L r) b → (L r2).h.cap ≠ 0 → b ≠ (L r2).h.blk := fun b hb hc e => by
    subst e
    exact hne ((h.own r2 _ _ hr2 (own2 hc)).2.2 r _ hr hb)
  refine h.seize (M := []) (L' := L) (w' := w) r [r2] (.rows3 true sz (es.set i (some ((L r2).h, rs)))) (by simp) (by rw [List.getElem?_set_ne (Ne.symm hne), List.getElem?_set_self hrl]) (fun j hj o ho => ?_) (fun _ _ _ => rfl) (fun _ _ => rfl) (Bel.refl _ _) (fun _ _ => .inl rfl) (fun b hb => ?_) (fun b hb => hb.elim) ?_
  · by_cases e : j = r2
    · subst e
      have : ((H.set r (.rows3 true sz (es.set i (some ((L j).h, rs))))).set j PO.gone)[j]? = some .gone := List.getElem?_set_self (by simpa using (List.getElem?_eq_some_iff.1 hr2).1)
      rw [this] at ho
      exact .inl (Option.some.inj ho).symm
    · rw [List.getElem?_set_ne (Ne.symm e), List.getElem?_set_ne (Ne.symm hj)] at ho
      exact .inr ⟨by simpa using e, o, ho, (killO_nil o).symm⟩
  · rcases hb with hb | ⟨j, p, hj, hc, rfl⟩
    · obtain ⟨k1, k2, _⟩ := h.own r _ b hr (.inl hb)
      exact ⟨k1, k2, .inr ⟨r, _, .inl rfl, hr, .inl hb⟩⟩
    · rcases hget j p hj with ⟨rfl, rfl⟩ | ⟨_, hj⟩
      · obtain ⟨k1, k2, _⟩ := h.own r2 _ _ hr2 (own2 hc)
        exact ⟨k1, k2, .inr ⟨r2, _, .inr (by simp), hr2, own2 hc⟩⟩
      · have ho : Own (.rows3 true sz es) (L r) p.1.blk := .inr ⟨j, p, hj, hc, rfl⟩
        obtain ⟨k1, k2, _⟩ := h.own r _ _ hr ho
        exact ⟨k1, k2, .inr ⟨r, _, .inl rfl, hr, ho⟩⟩
  · refine ⟨c1, by simpa using c2, c3, fun j p hj => ?_⟩
    rcases hget j p hj with ⟨rfl, rfl⟩ | ⟨hji, hj⟩
    · refine ⟨h.obj r2 _ hr2, ⟨v, hv, hh.weak⟩, fun hc => ⟨fun hc2 e => apart (L r).h.blk (.inl ⟨hc2, rfl⟩) hc e.symm, fun _ k q hk hq e => ?_⟩⟩
      rcases hget k q hk with ⟨rfl, _⟩ | ⟨_, hk⟩
      · rfl
      · exact absurd e (apart q.1.blk (.inr ⟨k, q, hk, hq, rfl⟩) hc)
    · obtain ⟨d1, d2, d3⟩ := c4 j p hj
      refine ⟨d1, d2, fun hc => ⟨(d3 hc).1, fun _ k q hk hq e => ?_⟩⟩
      rcases hget k q hk with ⟨_, rfl⟩ | ⟨_, hk⟩
      · exact absurd e.symm (apart p.1.blk (.inr ⟨j, p, hj, hc, rfl⟩) hq)
      · exact (d3 hc).2 rfl k q hk hq e

theorem store_sound (h : Rel B R w0 L H w) {t : TypeId} {x y : AV} {v u : Value} (hx : VA H.length L x v) (hy : VA H.length L y u) {K : List PO → Prop} (hs : storeA P H t x y K) :
    ∃ w' H', (Instr.storeAt t v u).run P w = .ok () w' ∧ H'.length = H.length ∧ Rel B R w0 L H' w' ∧ K H' := by
  unfold storeA at hs
  split at hs <;> try exact hs.elim
  rename_i y
  simp only [cond_eq_ite] at hs
  split at hs <;> try exact hs.elim
  rename_i hinfo
  split at hs <;> try exact hs.elim
  rename_i hlen
  have hlen := lenIs_spec _ _ hlen
  have hvs := VP.cells (N := H.length) (L := L) (x := y) (v := u) hy
  have hvlen := hvs.length
  have hcz : u.cells.size = szOf P t := by rw [← hlen, hvlen]; simp
  have hrun : ∀ ad : Addr, ad.spot = none → ∀ w', (storeCells ⟨ad.block, ad.off, none⟩ u.cells.toList 0).run P w = .ok () w' → (Instr.storeAt t (.pointer (some ad)) u).run P w = .ok () w' := by
    intro ad hs w' hr
    have : ad = ⟨ad.block, ad.off, none⟩ := by cases ad; simp at hs; subst hs; rfl
    rw [← this] at hr
    simp [Instr.storeAt, Instr.sureAddr, storeVar, run_sizeOf_some hinfo, hcz, hr]
  split at hs <;> try exact hs.elim
  · rename_i r f
    obtain ⟨hr, rfl⟩ := hx
    rw [nth_eq] at hs
    split at hs <;> try exact hs.elim
    rename_i cs hcs
    obtain ⟨hle, hs⟩ := setsK_spec _ _ _ _ hs
    rw [setK_eq] at hs
    obtain ⟨ob, osz, opos, oc, ocell⟩ := h.obj r _ hcs
    rcases Nat.eq_zero_or_pos (cellsOf y).length with hz | hpos
    · -- nothing at all is laid
      have hnil : cellsOf y = [] := List.length_eq_zero_iff.1 hz
      have hu : u.cells.toList = [] := List.length_eq_zero_iff.1 (by omega)
      rw [hnil] at hs
      simp only [splice] at hs
      have hset : H.set r (.one cs) = H := List.ext_getElem? fun j => by
        by_cases hj : j = r
        · subst hj; rw [List.getElem?_set_self (List.getElem?_eq_some_iff.1 hcs).1, hcs]
        · rw [List.getElem?_set_ne (Ne.symm hj)]
      rw [hset] at hs
      exact ⟨w, H, hrun _ rfl w (by rw [hu]; rfl), rfl, h, hs⟩
    have hle : f + (cellsOf y).length ≤ cs.length := by
      rcases hle with hle | hle
      · exact hle
      · rw [hle] at hpos; simp at hpos
    obtain ⟨w', hr', hrel⟩ := store_cells (P := P) h hcs (o' := .one (splice cs f (cellsOf y))) (b := (L r).h.blk) (off := f) (n := cs.length) rfl (fun _ => Iff.rfl) (fun _ => Iff.rfl) oc u.cells.toList (VCs.all_one hvs) (by omega)
      (fun w' hk hcc hout hin => by
        refine ⟨ob, by rw [splice_length]; exact osz, by rw [splice_length]; exact opos, by rw [splice_length]; exact hcc, fun g z hg => ?_⟩
        rw [splice_get _ _ _ _ hle] at hg
        have hat : (L r).h.at 0 g = ⟨(L r).h.blk, g, none⟩ := by simp [ILoc.at, ob]
        rw [hat]
        split at hg
        · rename_i hgr
          obtain ⟨q, hq, hqr⟩ := hvs.get hg
          have := hin _ _ hq
          rw [show f + (g - f) = g by omega] at this
          exact ⟨q, this, hqr⟩
        · rename_i hgr
          obtain ⟨q, hq, hqr⟩ := ocell g z hg
          rw [hat] at hq
          exact ⟨q, by rw [hout g (by omega)]; exact hq, hqr⟩)
    refine ⟨w', _, hrun _ rfl w' ?_, by simp, hrel, hs⟩
    simpa [ILoc.at, ob] using hr'
  · rename_i r i f
    obtain ⟨hr, rfl⟩ := hx
    rw [nth_eq] at hs
    split at hs <;> try exact hs.elim
    rename_i sz rs hrs
    split at hs <;> try exact hs.elim
    rename_i ys hys
    obtain ⟨row, hrow, hs⟩ := hs
    split at hs <;> try exact hs.elim
    rename_i hle
    have hle : f + szOf P t ≤ row.length := by simpa using hle
    have hs := (setsK_spec _ _ _ _ hs).2
    rw [setK_eq] at hs
    obtain ⟨osz, opos, ocap, oown, ocell⟩ := h.obj r _ hrs
    have hi : i < rs.length := (List.getElem?_eq_some_iff.1 hrow).1
    have hcap : (L r).h.cap ≠ 0 := by omega
    obtain ⟨ob, nn, hnn, oc⟩ := oown rfl hcap
    have hfc := fcs_spec hys
    have hyl : ys.length = szOf P t := by rw [← hlen, hfc]; simp
    have hrl := (ocell i row hrow).1
    have hat : ∀ i g, (L r).h.at i g = ⟨(L r).h.blk, i * sz + g, none⟩ := fun i g => by simp [ILoc.at, ob, osz]
    obtain ⟨w', hr', hrel⟩ := store_cells (P := P) h hrs (o' := .rows false sz (rs.set i (splice row f ys))) (b := (L r).h.blk) (off := i * sz + f) (n := nn) ⟨hcap, rfl⟩ (fun _ => Iff.rfl) (fun _ => Iff.rfl) oc
      u.cells.toList (VCs.all_one hvs) (by
        have : i * sz + (f + u.cells.toList.length) ≤ (L r).h.cap * sz := row_in (by omega) (by omega)
        omega)
      (fun w' hk hcc hout hin => by
        refine ⟨osz, opos, by simpa using ocap, fun _ _ => ⟨ob, nn, hnn, hcc⟩, fun i' r' hr' => ?_⟩
        have hold : ∀ (g : Nat) (x' : FC), i' < rs.length → (∃ r0, rs[i']? = some r0 ∧ r0[g]? = some x') → (i' * sz + g < i * sz + f ∨ i * sz + f + u.cells.toList.length ≤ i' * sz + g) →
            w'.cell? ((L r).h.at i' g) = some x'.val := by
          rintro g x' hi' ⟨r0, hr0, hg⟩ hap
          have := (ocell i' r0 hr0).2 g x' hg
          rw [hat] at this ⊢
          rw [hout _ hap, this]
        by_cases hii : i' = i
        · subst hii
          rw [List.getElem?_set_self hi] at hr'
          cases hr'
          refine ⟨by rw [splice_length, hrl], fun g x' hg => ?_⟩
          rw [splice_get _ _ _ _ (by omega)] at hg
          split at hg
          · rename_i hgr
            obtain ⟨q, hq, hqr⟩ := hvs.get (i := g - f) (x := .f x') (by rw [hfc, List.getElem?_map, hg]; rfl)
            have := hin _ _ hq
            rw [show i' * sz + f + (g - f) = i' * sz + g by omega] at this
            rw [hat, this]
            exact congrArg some hqr
          · rename_i hgr
            exact hold g x' hi ⟨row, hrow, hg⟩ (by omega)
        · rw [List.getElem?_set_ne (Ne.symm hii)] at hr'
          refine ⟨(ocell i' r' hr').1, fun g x' hg => ?_⟩
          have hgl : g < sz := by have := (List.getElem?_eq_some_iff.1 hg).1; rw [(ocell i' r' hr').1] at this; exact this
          exact hold g x' (List.getElem?_eq_some_iff.1 hr').1 ⟨r', hr', hg⟩ (rows_apart hii hgl (by omega)))
    refine ⟨w', _, hrun _ rfl w' ?_, by simp, hrel, hs⟩
    simpa [hat] using hr'
    · rename_i sz es hrs
      split at hs <;> try exact hs.elim
      rename_i r2 n nn2 _
      rw [nth_eq] at hs
      split at hs <;> try exact hs.elim
      rename_i sz2 rs hr2
      split at hs <;> try exact hs.elim
      rename_i hb
      simp only [Bool.and_eq_true, Bool.not_eq_true'] at hb
      obtain ⟨⟨hz, hs1⟩, hne⟩ := hb
      obtain rfl := Nat.eq_of_beq_eq_true hz
      have hne : r ≠ r2 := Nat.ne_of_beq_eq_false hne
      obtain ⟨rfl, hi, hs⟩ := hs
      obtain ⟨_, hh⟩ := hy
      obtain ⟨c1, c2, c3, c4⟩ := h.obj r _ hrs
      have hil := (List.getElem?_eq_some_iff.1 hi).1
      have hcap : (L r).h.cap ≠ 0 := by omega
      obtain ⟨ob, n0, hn0, oc⟩ := c3 hcap
      have hat : ∀ i, (L r).h.at i 0 = ⟨(L r).h.blk, i, none⟩ := fun i => by simp [ILoc.at, ob, c1]
      have huc : u.cells.toList = [u] := by
        rcases hh with ⟨_, _, rfl, _⟩ | ⟨_, _, rfl, _⟩ <;> rfl
      obtain ⟨w', hr', hrel, hnew⟩ := store_cells2 (P := P) h hrs (o' := .rows3 true sz2 es) (b := (L r).h.blk) (off := i) (n := n0) (.inl ⟨hcap, rfl⟩) (fun _ => Iff.rfl) (fun _ => Iff.rfl) oc
        u.cells.toList (VCs.all_one hvs) (by rw [huc]; show i + 1 ≤ n0; omega)
        (fun w' hk hcc hout hin => by
          refine ⟨c1, c2, fun _ => ⟨ob, n0, hn0, hcc⟩, fun j p hj => ?_⟩
          obtain ⟨d1, ⟨v, dv, dh⟩, d3⟩ := c4 j p hj
          refine ⟨d1.mono fun hc => hk _ ((d3 hc).1 hcap), ⟨v, ?_, dh⟩, d3⟩
          have hji : j ≠ i := fun e => by subst e; rw [hi] at hj; cases hj
          rw [hat] at dv ⊢
          rw [hout j (by rw [huc]; show j < i ∨ i + 1 ≤ j; omega)]
          exact dv)
      rw [set_was hrs] at hrel
      have hv : w'.cell? ((L r).h.at i 0) = some u := by
        rw [hat]
        exact hnew 0 u (by rw [huc]; rfl)
      have hs := hs (L r2).h
      rw [setK_eq, setK_eq] at hs
      refine ⟨w', _, hrun _ rfl w' ?_, by simp, put3 hrel hrs hr2 hne hi hv hh, hs⟩
      simpa [hat] using hr'

def upd (L : Nat → Loc) (i : Nat) (l : Loc) : Nat → Loc := fun j => if j = i then l else L j

theorem upd_self (L : Nat → Loc) (i : Nat) (l : Loc) : upd L i l i = l := by simp [upd]
theorem upd_ne {L : Nat → Loc} {i j : Nat} {l : Loc} (h : j ≠ i) : upd L i l j = L j := by simp [upd, h]
theorem upd_agree (L : Nat → Loc) (l : Loc) (N : Nat) (M : List Nat) : Agree N M L (upd L N l) := fun i hi _ => upd_ne (by omega)

/-- A new object. -/
theorem alloc_sound (h : Rel B R w0 L H w) (o : PO) (l : Loc) (c : Array Value) (t : TypeId) {fr : Nat × Nat}
    (hown : ∀ b, Own o l b → b = w.heap.size) (hro : ∀ b, ¬ Ro o l b)
    (hOR : OR (H.length + 1) (upd L H.length l) (w.alloc (.cells c t fr)) o l) :
    Agree H.length [] L (upd L H.length l) ∧ Rel B R w0 (upd L H.length l) (H ++ [o]) (w.alloc (.cells c t fr)) := by
  refine ⟨upd_agree _ _ _ _, h.put (M := []) H.length o (by simp) (by simp) (fun j hj o1 ho1 => ?_) (upd_agree _ _ _ _) (fun j hj => upd_ne hj) ((Bel.refl B w).alloc h.size _)
    (fun b hb => .inl (heap_alloc_lt _ _ _ hb)) (fun b hb => ?_) (fun b hb => ?_) ?_⟩
  · rcases Nat.lt_or_gt_of_ne hj with hl | hg
    · rw [List.getElem?_append_left hl] at ho1
      exact ⟨o1, ho1, (killO_nil o1).symm⟩
    · rw [List.getElem?_eq_none (by simp; omega)] at ho1
      cases ho1
  · rw [upd_self] at hb
    have := hown b hb
    subst this
    exact ⟨fun hb => Nat.lt_irrefl _ (h.size _ hb), by simp, .inl (Nat.le_refl _)⟩
  · rw [upd_self] at hb; exact absurd hb (hro b)
  · rw [upd_self]; simpa using hOR

/-- A value is boxed. -/
theorem box_sound (h : Rel B R w0 L H w) {x : AV} {v : Value} (hx : VA H.length L x v) (t : TypeId) {K : AV → List PO → Prop} (hb : boxA H x K) :
    ∃ u w' L' y H', (newVar t v).run P w = .ok u w' ∧ Agree H.length [] L L' ∧ H.length ≤ H'.length ∧ Rel B R w0 L' H' w' ∧ VA H'.length L' y (.pointer (some u)) ∧ K y H' := by
  unfold boxA at hb
  split at hb <;> try exact hb.elim
  rename_i y
  split at hb <;> try exact hb.elim
  rename_i c0 cs hcs
  have hK := snocK_spec hb
  have hvs := VP.cells (N := H.length) (L := L) (x := y) (v := v) hx
  rw [hcs] at hvs
  have hlen := hvs.length
  have hag := upd_agree L ⟨⟨w.heap.size, 0, 1, (c0 :: cs).length⟩, fun _ => ⟨0, 0, 0, 0⟩⟩ H.length []
  obtain ⟨h1, h2⟩ := alloc_sound h (.one (c0 :: cs)) ⟨⟨w.heap.size, 0, 1, (c0 :: cs).length⟩, fun _ => ⟨0, 0, 0, 0⟩⟩ v.cells t (fun b hb => hb) (fun b hb => hb) (by
    have hblk := heap_alloc_eq w (.cells v.cells t)
    refine ⟨rfl, rfl, by simp, ⟨v.cells, t, (0, 0), hblk, by rw [hlen]; simp, by simp⟩, fun f z hz => ?_⟩
    obtain ⟨q, hq, hqr⟩ := hvs.get hz
    refine ⟨q, ?_, ?_⟩
    · simp only [World.cell?, ILoc.at, hblk]
      simpa using hq
    · have := hqr.mono (M := []) (N' := H.length + 1) (Nat.le_succ _) hag
      rwa [killC_nil] at this)
  refine ⟨⟨w.heap.size, 0, none⟩, w.alloc (.cells v.cells t), _, _, _, rfl, h1, by simp, h2, ?_, hK⟩
  refine ⟨by simp, ?_⟩
  rw [upd_self]
  simp [ILoc.at]

end
end Go.Mac
end

/- The machine of abstract values, part 4: operations are what they are said to be. -/
section
namespace Go.Mac
open Go

section
variable {B R : Nat → Prop} {w0 : World} {N : Nat} {L : Nat → Loc} {P : Program} {w : World} {K : AV → Prop}

theorem bytes_toList (l : List UInt8) : (ByteArray.mk l.toArray).toList = l := by
  rw [ByteArray.toList_eq]

theorem run_eqGuard_ne {op : BinOp} {t : TypeId} {x y : Operand} {a b : Value} (h : ¬ (a = .nilIface ∧ b = .nilIface)) (h' : ∀ u v, ¬ (a = .agg u ∧ b = .agg v)) :
    (eqGuard op t x y a b).run P w = .ok () w := by
  cases op <;> simp only [eqGuard, Bool.not_true, Bool.not_false, if_true, if_false, Bool.false_eq_true, Sem.run_pure] <;> try rfl
  all_goals
    split
    · exact absurd ⟨rfl, rfl⟩ h
    · exact absurd ⟨rfl, rfl⟩ (h' _ _)
    · rfl

theorem run_eqGuard_const {op : BinOp} {t : TypeId} {x y : Operand} (h : isConst x = true ∨ isConst y = true) : (eqGuard op t x y .nilIface .nilIface).run P w = .ok () w := by
  cases x <;> cases y <;> simp [isConst] at h <;> cases op <;> rfl

theorem VA.intv {k : IntKind} {n : Int} : VA N L (fcv (.int k n)) (.int k n) := rfl
theorem VA.boolv {b : Bool} : VA N L (bl b) (.bool b) := rfl

theorem intBin_sound {op : BinOp} {t : TypeId} {k k' : IntKind} {a b : Int} (hk : op = .shl ∨ op = .shr ∨ k = k') (h : intBin op k a b K) :
    ∃ y u, (binOp op t (.int k a) (.int k' b)).run P w = .ok u w ∧ VA N L y u ∧ K y := by
  cases op <;> simp only [intBin, nonneg_iff, nonzero_iff] at h
  case shl =>
    have : ¬ b < 0 := by omega
    exact ⟨_, _, by simp only [binOp, Op.shift, if_neg this]; rfl, VA.intv, h.2⟩
  case shr =>
    have : ¬ b < 0 := by omega
    exact ⟨_, _, by simp only [binOp, Op.shift, if_neg this]; rfl, VA.intv, h.2⟩
  all_goals
    have hk' : k = k' := by simpa using hk
    subst hk'
  case quo => exact ⟨_, _, by simp only [binOp, Op.intDiv, if_neg h.1, ne_eq, not_true_eq_false, if_false]; rfl, VA.intv, h.2⟩
  case rem => exact ⟨_, _, by simp only [binOp, Op.intDiv, if_neg h.1, ne_eq, not_true_eq_false, if_false]; rfl, VA.intv, h.2⟩
  case eql => exact ⟨_, _, by simp only [binOp, Op.intCmp, ne_eq, not_true_eq_false, if_false]; rfl, VA.boolv, h⟩
  case neq => exact ⟨_, _, by simp only [binOp, Op.intCmp, ne_eq, not_true_eq_false, if_false]; rfl, VA.boolv, h⟩
  case lss => exact ⟨_, _, by simp only [binOp, Op.intCmp, ne_eq, not_true_eq_false, if_false]; rfl, VA.boolv, h⟩
  case leq => exact ⟨_, _, by simp only [binOp, Op.intCmp, ne_eq, not_true_eq_false, if_false]; rfl, VA.boolv, h⟩
  case gtr => exact ⟨_, _, by simp only [binOp, Op.intCmp, ne_eq, not_true_eq_false, if_false]; rfl, VA.boolv, h⟩
  case geq => exact ⟨_, _, by simp only [binOp, Op.intCmp, ne_eq, not_true_eq_false, if_false]; rfl, VA.boolv, h⟩
  all_goals exact ⟨_, _, by simp only [binOp, Op.intArith, Op.intBits, ne_eq, not_true_eq_false, if_false]; rfl, VA.intv, h⟩

theorem strBin_sound {op : BinOp} {t : TypeId} {a b : List UInt8} (h : strBin op a b K) :
    ∃ y u, (binOp op t (.string ⟨a.toArray⟩) (.string ⟨b.toArray⟩)).run P w = .ok u w ∧ VA N L y u ∧ K y := by
  have hs : (ByteArray.mk a.toArray).size = a.length := rfl
  have hs' : (ByteArray.mk b.toArray).size = b.length := rfl
  cases op <;> simp only [strBin] at h <;> try exact h.elim
  case add =>
    refine ⟨_, .string (⟨a.toArray⟩ ++ ⟨b.toArray⟩), ?_, ?_, h.2⟩
    · have : ¬ (((a.length + b.length : Nat) : Int) > IntKind.i64.max) := by
        have := h.1
        show ¬ (_ > (9223372036854775807 : Int))
        omega
      simp only [binOp, Op.stringOp, hs, hs', if_neg this]
      rfl
    · show Value.string _ = Value.string _
      congr 1
  all_goals exact ⟨_, _, by simp only [binOp, Op.stringOp, bytes_toList]; rfl, VA.boolv, h⟩

theorem eqA_sound {t : TypeId} {c : Bool} {x y : CV} {v u : Value} (hx : VC N L x v) (hy : VC N L y u) (ht : eqTy P t x = true) {b : Bool} (h : eqA c x y = some b) :
    (Op.equal t v u).run P w = .ok b w := by
  show (Op.equalIn (9999 + 1) t v u).run P w = .ok b w
  unfold eqA at h
  split at h <;> (try simp only [Option.some.injEq, reduceCtorEq] at h) <;> (try subst h)
  all_goals (simp only [VC] at hx hy)
  all_goals (simp only [eqTy] at ht)
  all_goals (split at ht <;> try cases ht)
  all_goals rename_i hu
  all_goals (first
    | (subst hx; subst hy)
    | (obtain ⟨_, rfl, _⟩ := hy; subst hx)
    | (obtain ⟨_, rfl, _⟩ := hx; subst hy)
    | (obtain ⟨_, rfl⟩ := hy; subst hx)
    | (obtain ⟨_, rfl⟩ := hx; subst hy)
    | (obtain ⟨_, ⟨hh, _⟩ | ⟨_, _, rfl, _⟩⟩ := hy; · cases hh
       subst hx)
    | (obtain ⟨_, ⟨hh, _⟩ | ⟨_, _, rfl, _⟩⟩ := hx; · cases hh
       subst hy))
  all_goals (try (cases c <;> simp at h; subst h))
  all_goals (rw [Op.equalIn]; simp only [Sem.run_bind, run_underlying_some hu, Result.andThen_ok]; rfl)

theorem eqFC_sound (d : Nat) {t : TypeId} {x y : FC} (hk : kindOf x = kindT P t) {b : Bool} (h : eqFC x y = some b) :
    aggT P t = some false ∧ (Op.equalIn (d + 1) t x.val y.val).run P w = .ok b w := by
  cases x <;> cases y <;> simp only [eqFC, Option.some.injEq, reduceCtorEq] at h
  · have hu : P.underlying t = some .bool := by
      unfold kindT at hk; split at hk <;> simp [kindOf] at hk; assumption
    subst h
    exact ⟨by simp [aggT, hu], run_equalIn_bool' w d t _ _ hu⟩
  · obtain ⟨k, hu⟩ : ∃ k, P.underlying t = some (.int k) := by
      unfold kindT at hk; split at hk <;> simp [kindOf] at hk; exact ⟨_, by assumption⟩
    split at h <;> simp only [Option.some.injEq, reduceCtorEq] at h
    rename_i hkk
    subst h
    subst hkk
    exact ⟨by simp [aggT, hu], run_equalIn_int w d t _ _ _ _ hu⟩
  · have hu : P.underlying t = some .string := by
      unfold kindT at hk; split at hk <;> simp [kindOf] at hk; assumption
    subst h
    refine ⟨by simp [aggT, hu], ?_⟩
    simp only [FC.val]
    rw [run_equalIn_string w d t _ _ hu, bytes_toList, bytes_toList]

theorem eqFCs_sound (d : Nat) {xs ys : Array Value} : ∀ (fs : List Field) (n : Nat) (X Y : List FC), plainFrom P fs n = true → xs.toList.drop n = X.map FC.val → ys.toList.drop n = Y.map FC.val →
    X.map kindOf = fs.map (fun f => kindT P f.type) → ∀ b, eqFCs X Y = some b → (Op.eqFields (d + 1) xs ys fs).run P w = .ok b w
  | [], n, X, Y, _, hX, hY, hl, b, h => by
    have : X = [] := by simpa using hl
    subst this
    cases Y with
    | nil => simp [eqFCs] at h; subst h; rfl
    | cons y Y => simp [eqFCs] at h
  | f :: fs, n, X, Y, hp, hX, hY, hl, b, h => by
    cases X with
    | nil => simp at hl
    | cons x X =>
      cases Y with
      | nil => simp [eqFCs] at h
      | cons y Y =>
        simp only [plainFrom, Bool.and_eq_true, beq_iff_eq, bne_iff_ne] at hp
        obtain ⟨⟨⟨hoff, hname⟩, _⟩, hrest⟩ := hp
        simp only [List.map_cons, List.cons.injEq] at hl hX hY
        have hxn : xs[n]? = some x.val := by
          have := congrArg (·[0]?) hX
          simpa using this
        have hyn : ys[n]? = some y.val := by
          have := congrArg (·[0]?) hY
          simpa using this
        have hxd : xs.toList.drop (n + 1) = X.map FC.val := by
          rw [← List.tail_drop, hX]; rfl
        have hyd : ys.toList.drop (n + 1) = Y.map FC.val := by
          rw [← List.tail_drop, hY]; rfl
        simp only [eqFCs] at h
        split at h <;> simp only [Option.some.injEq, reduceCtorEq] at h
        rename_i b1 b2 h1 h2
        obtain ⟨hagg, heq⟩ := eqFC_sound (w := w) (P := P) d hl.1 h1
        have hpx : (part f.type xs f.offset).run P w = .ok x.val w := by
          simp [part, run_isAgg_some hagg, hoff, hxn]
        have hpy : (part f.type ys f.offset).run P w = .ok y.val w := by
          simp [part, run_isAgg_some hagg, hoff, hyn]
        have ih := eqFCs_sound d fs (n + 1) X Y hrest hxd hyd hl.2 b2 h2
        simp only [Op.eqFields, if_pos hname, Sem.run_bind, hpx, hpy, heq, Result.andThen_ok, Sem.run_ite]
        cases b1
        · simp at h; subst h; simp
        · simp at h; subst h; simpa using ih

theorem VCs_f : ∀ {X : List FC} {vs : List Value}, VCs N L (X.map .f) vs → vs = X.map FC.val
  | [], vs, h => h
  | x :: X, vs, h => by
    obtain ⟨y, ys, rfl, h2, h3⟩ := h
    obtain rfl := h2
    rw [VCs_f (X := X) h3]
    rfl

theorem structEq_sound {t : TypeId} {op : BinOp} {x y : Operand} {X Y : List FC} (hp : plainT P t = true) (hk : X.map kindOf = kindsT P t) {b : Bool}
    (h : eqFCs X Y = some b) : (eqGuard op t x y (.agg (X.map FC.val).toArray) (.agg (Y.map FC.val).toArray)).run P w = .ok () w ∧
      (Op.equal t (.agg (X.map FC.val).toArray) (.agg (Y.map FC.val).toArray)).run P w = .ok b w := by
  simp only [plainT, Bool.and_eq_true, Bool.not_eq_true'] at hp
  obtain ⟨⟨⟨h1, h2⟩, h3⟩, h4⟩ := hp
  refine ⟨run_eqGuard_agg w op t x y _ _ h3, ?_⟩
  cases hu : P.underlying t with
  | none => simp [hu] at h1
  | some dd =>
    cases dd <;> simp [hu] at h1
    rename_i fs
    have hf : fieldsT P t = fs.toList := by simp [fieldsT, hu]
    have hpf : P.fieldsOf t = fs := by simp [Program.fieldsOf, hu]
    rw [hf] at h2
    have := run_equalIn_agg (P := P) w 9999 t (X.map FC.val).toArray (Y.map FC.val).toArray (by rw [hpf]; exact hu) h4
    show (Op.equalIn (9999 + 1) t _ _).run P w = _
    rw [this, hpf]
    exact eqFCs_sound 9998 fs.toList 0 X Y h2 (by simp) (by simp) (by simpa [kindsT, hf] using hk) b h

theorem eqA_plain {c : Bool} {x y : CV} {b : Bool} (h : eqA c x y = some b) {v u : Value} (hx : VC N L x v) (hy : VC N L y u) :
    (¬ (v = .nilIface ∧ u = .nilIface) ∨ c = true) ∧ ∀ a b, ¬ (v = .agg a ∧ u = .agg b) := by
  constructor
  · unfold eqA at h
    split at h <;> (try simp only [reduceCtorEq] at h)
    case h_1 => right; cases c <;> simp at h ⊢
    case h_2 => left; obtain ⟨_, rfl, _⟩ := hy; simp
    case h_3 => left; obtain ⟨_, rfl, _⟩ := hx; simp
    all_goals
      left
      rintro ⟨rfl, rfl⟩
      simp [VC] at hx hy
    all_goals
      obtain ⟨_, hh⟩ := hy
      simp [Hdr] at hh
  · rintro a b ⟨rfl, rfl⟩
    have := hx.oneCell
    simp [OneCell] at this

theorem eqA_bin {c : Bool} {x y : CV} {b : Bool} (h : eqA c x y = some b) {v u : Value} (hx : VC N L x v) (hy : VC N L y u) (t : TypeId) :
    binOp .eql t v u = (do pure (.bool (← Op.equal t v u))) ∧ binOp .neq t v u = (do pure (.bool (!(← Op.equal t v u)))) := by
  unfold eqA at h
  split at h <;> (try simp only [reduceCtorEq] at h)
  all_goals (simp only [VC] at hx hy)
  all_goals (first
    | (subst hx; subst hy; exact ⟨rfl, rfl⟩)
    | (obtain ⟨_, rfl, _⟩ := hy; subst hx; exact ⟨rfl, rfl⟩)
    | (obtain ⟨_, rfl, _⟩ := hx; subst hy; exact ⟨rfl, rfl⟩)
    | (obtain ⟨_, rfl⟩ := hy; subst hx; exact ⟨rfl, rfl⟩)
    | (obtain ⟨_, rfl⟩ := hx; subst hy; exact ⟨rfl, rfl⟩)
    | (obtain ⟨_, ⟨hh, _⟩ | ⟨_, _, rfl, _⟩⟩ := hy; · cases hh
       subst hx; exact ⟨rfl, rfl⟩)
    | (obtain ⟨_, ⟨hh, _⟩ | ⟨_, _, rfl, _⟩⟩ := hx; · cases hh
       subst hy; exact ⟨rfl, rfl⟩))

theorem bin_sound {op : BinOp} {t : TypeId} {x y : Operand} {p q : AV} {v u : Value} (hx : VA N L p v) (hy : VA N L q u) (h : binA P op t (isConst x || isConst y) p q K) :
    ∃ r s, (do eqGuard op t x y v u; binOp op t v u : Sem Value).run P w = .ok s w ∧ VA N L r s ∧ K r := by
  unfold binA at h
  split at h <;> try exact h.elim
  · rename_i p q
    split at h
    · rename_i k a k' b
      obtain rfl := hx; obtain rfl := hy
      have hg : (eqGuard op t x y (FC.int k a).val (FC.int k' b).val).run P w = .ok () w := run_eqGuard_ne (by simp [FC.val]) (by simp [FC.val])
      have : ∃ r s, (binOp op t (.int k a) (.int k' b)).run P w = .ok s w ∧ VA N L r s ∧ K r := by
        split at h
        · exact intBin_sound (.inl rfl) h
        · exact intBin_sound (.inr (.inl rfl)) h
        · simp only [cond_eq_ite, decide_eq_true_eq] at h
          split at h <;> try exact h.elim
          rename_i hk
          exact intBin_sound (.inr (.inr hk)) h
      obtain ⟨r, s, h1, h2, h3⟩ := this
      exact ⟨r, s, by simp only [Sem.run_bind, hg, Result.andThen_ok]; exact h1, h2, h3⟩
    · rename_i a b
      obtain rfl := hx; obtain rfl := hy
      obtain ⟨r, s, h1, h2, h3⟩ := strBin_sound (N := N) (L := L) (P := P) (w := w) (t := t) h
      have hg : (eqGuard op t x y (FC.str a).val (FC.str b).val).run P w = .ok () w := run_eqGuard_ne (by simp [FC.val]) (by simp [FC.val])
      exact ⟨r, s, by simp only [Sem.run_bind, hg, Result.andThen_ok]; exact h1, h2, h3⟩
    · rename_i a b
      obtain rfl := hx; obtain rfl := hy
      have hg : (eqGuard op t x y (FC.bool a).val (FC.bool b).val).run P w = .ok () w := run_eqGuard_ne (by simp [FC.val]) (by simp [FC.val])
      unfold boolBin at h
      split at h <;> try exact h.elim
      all_goals
        rename_i hu
        have heq : (Op.equal t (FC.bool a).val (FC.bool b).val).run P w = .ok (a == b) w := run_equalIn_bool' w 9999 t _ _ hu
        exact ⟨_, _, by simp only [FC.val] at hg heq ⊢; simp only [Sem.run_bind, hg, Result.andThen_ok, binOp, heq, Sem.run_pure], VA.boolv, h⟩
    · simp only [cond_eq_ite] at h
      split at h <;> try exact h.elim
      rename_i ht
      have key : ∀ b, eqA (isConst x || isConst y) p q = some b → (eqGuard op t x y v u).run P w = .ok () w ∧ (Op.equal t v u).run P w = .ok b w := by
        intro b hb
        refine ⟨?_, eqA_sound hx hy ht hb⟩
        obtain ⟨h1, h2⟩ := eqA_plain hb hx hy
        rcases h1 with h1 | h1
        · exact run_eqGuard_ne h1 h2
        · by_cases hn : v = .nilIface ∧ u = .nilIface
          · obtain ⟨rfl, rfl⟩ := hn
            exact run_eqGuard_const (by simpa using h1)
          · exact run_eqGuard_ne hn h2
      split at h <;> try exact h.elim
      · rename_i b hb
        obtain ⟨h1, h2⟩ := key b hb
        obtain ⟨h3, h4⟩ := eqA_bin hb hx hy t
        exact ⟨_, _, by simp only [Sem.run_bind, h1, Result.andThen_ok, h3, h2, Sem.run_pure], VA.boolv, h⟩
      · rename_i b hb
        obtain ⟨h1, h2⟩ := key b hb
        obtain ⟨h3, h4⟩ := eqA_bin hb hx hy t
        exact ⟨_, _, by simp only [Sem.run_bind, h1, Result.andThen_ok, h4, h2, Sem.run_pure], VA.boolv, h⟩
  · rename_i xs ys
    split at h <;> try exact h.elim
    rename_i X Y hX hY
    obtain ⟨hp, h⟩ := h
    simp only [cond_eq_ite, decide_eq_true_eq] at h
    split at h <;> try exact h.elim
    rename_i hk
    have hpk : plainT P t = true ∧ X.map kindOf = kindsT P t := ⟨hp, hk⟩
    obtain ⟨vs, rfl, hvs⟩ := hx
    obtain ⟨us, rfl, hus⟩ := hy
    rw [fcs_spec hX] at hvs
    rw [fcs_spec hY] at hus
    obtain rfl := VCs_f hvs
    obtain rfl := VCs_f hus
    split at h <;> try exact h.elim
    · rename_i b hb
      obtain ⟨h1, h2⟩ := structEq_sound (P := P) (w := w) (op := .eql) (x := x) (y := y) hpk.1 hpk.2 hb
      exact ⟨_, _, by simp only [Sem.run_bind, h1, Result.andThen_ok, binOp, h2, Sem.run_pure], VA.boolv, h⟩
    · rename_i b hb
      obtain ⟨h1, h2⟩ := structEq_sound (P := P) (w := w) (op := .neq) (x := x) (y := y) hpk.1 hpk.2 hb
      exact ⟨_, _, by simp only [Sem.run_bind, h1, Result.andThen_ok, binOp, h2, Sem.run_pure], VA.boolv, h⟩

theorem un_sound {op : UnOp} {p : AV} {v : Value} (hx : VA N L p v) (h : unA op p K) : ∃ r s, (Op.unary op v).run P w = .ok s w ∧ VA N L r s ∧ K r := by
  unfold unA at h
  split at h <;> try exact h.elim
  · obtain rfl := hx
    exact ⟨_, _, rfl, VA.boolv, h⟩
  · obtain rfl := hx
    exact ⟨_, _, rfl, VA.intv, h⟩

theorem conv_sound {s d : TypeId} {p : AV} {v : Value} (hx : VA N L p v) (h : convA P s d p K) : ∃ r u, (convert s d v).run P w = .ok u w ∧ VA N L r u ∧ K r := by
  simp only [convA, cond_eq_ite] at h
  split at h <;> try exact h.elim
  rename_i hs
  obtain ⟨ds, hds⟩ := Option.isSome_iff_exists.1 hs
  split at h <;> try exact h.elim
  · rename_i k _ n hd
    obtain rfl := hx
    refine ⟨_, .int k (k.wrap n), ?_, VA.intv, h⟩
    simp only [convert, Sem.run_bind, run_underlying_some hds, run_underlying_some hd, Result.andThen_ok]
    rfl
  · rename_i l hd
    obtain rfl := hx
    refine ⟨st l, .string ⟨l.toArray⟩, ?_, rfl, h⟩
    simp only [convert, Sem.run_bind, run_underlying_some hds, run_underlying_some hd, Result.andThen_ok]
    rfl

theorem zval_sound {t : TypeId} {y : PV} (h : zval P t = .p y) : ∃ z, (zeroValue t).run P w = .ok z w ∧ VP N L y z := by
  unfold zval at h
  split at h
  · rename_i z hz
    have := avOf_ok (N := N) (L := L) z
    rw [h] at this
    exact ⟨z, run_zeroValue_some hz, this⟩
  · cases h

/-- Parts of a struct or an array, laid in. -/
theorem fill_sound (place : Nat → Option (Nat × Nat)) {K : List CV → Prop} : ∀ (parts : List (Nat × AV)) (vparts : List (Nat × Value)) (cells : List CV) (vcells : Array Value),
    parts.map (·.1) = vparts.map (·.1) → VAs N L (parts.map (·.2)) (vparts.map (·.2)) → VCs N L cells vcells.toList → fillK place cells K parts →
    ∃ cs vcs, Instr.fill place vcells vparts = some vcs ∧ VCs N L cs vcs.toList ∧ K cs
  | [], vparts, cells, vcells, h1, h2, h3, h => by
    have : vparts = [] := by simpa using h1.symm
    subst this
    exact ⟨cells, vcells, rfl, h3, h⟩
  | (i, x) :: parts, vparts, cells, vcells, h1, h2, h3, h => by
    cases vparts with
    | nil => simp at h1
    | cons q vparts =>
      obtain ⟨j, v⟩ := q
      simp only [List.map_cons, List.cons.injEq] at h1
      obtain ⟨rfl, h1⟩ := h1
      obtain ⟨_, _, he, hxv, h2⟩ := h2
      cases he
      simp only [fillK] at h
      split at h <;> try exact h.elim
      rename_i off size x hpl
      simp only [cond_eq_ite] at h
      split at h
      · exact h.elim
      rename_i hpos
      have hpos : size ≠ 0 := by intro e; subst e; simp at hpos
      split at h <;> try exact h.elim
      rename_i hsz
      have hsz := lenIs_spec _ _ hsz
      obtain ⟨hle, h⟩ := setsK_spec _ _ _ _ h
      have hvs := VP.cells (N := N) (L := L) (x := x) (v := v) hxv
      have hlen := hvs.length
      have hvl : v.cells.size = size := by rw [← hsz, hlen]; simp
      have hcl := h3.length
      have key : ∀ (ys : List CV) (us : List Value) (k : Nat) (c : List CV) (vc : Array Value), VCs N L ys us → VCs N L c vc.toList →
          VCs N L (splice c (off + k) ys) ((us.zipIdx k).foldl (fun cs (p : Value × Nat) => cs.setIfInBounds (off + p.2) p.1) vc).toList := by
        intro ys
        induction ys with
        | nil => intro us k c vc hu hc; simp [VCs] at hu; subst hu; simpa [splice] using hc
        | cons y ys ih =>
          intro us k c vc hu hc
          obtain ⟨u, us', rfl, hyu, hu'⟩ := hu
          simp only [splice, List.zipIdx_cons, List.foldl_cons]
          refine ih us' (k + 1) _ _ hu' ?_
          have := VCs.set hc (off + k) hyu
          simpa using this
      have hk := key (cellsOf x) v.cells.toList 0 cells vcells hvs h3
      obtain ⟨cs, vcs, hf, hr, hK⟩ := fill_sound place parts vparts _ _ h1 h2 hk h
      refine ⟨cs, vcs, ?_, hr, hK⟩
      simp only [Instr.fill, hpl]
      have hle : off + (cellsOf x).length ≤ cells.length := by
        rcases hle with hle | hle
        · exact hle
        · rw [hle] at hsz; simp at hsz; omega
      have : (v.cells.size ≠ size || decide (off + v.cells.size > vcells.size)) = false := by
        simp [hvl]; simp at hcl; omega
      rw [if_neg (by simpa using this)]
      rw [← hf]
      congr 1
      rw [← Array.foldl_toList]
      simp

end
end Go.Mac
end
