/- Regions that store into known blocks of two cells, or into two new ones. No program is named. -/
import Derived.Test.YtadiajlegajclaaW5
namespace Go.Proofs.Ytadiajlegajclaa
open Go.RowKit

/-- One block of two cells, stored into by operation i. -/
structure Sto1 (w0 : World) (g : Nat) (t : TypeId) (x y a b : Value) (i : Nat) (L : Array Bool) (w' : World) : Prop where
  base : Mod (fun k => k = g) w0 w'
  one : Bk w' g t (if L.getD i false then [a, b] else [x, y])
section
variable {w0 : World} {g : Nat} {t : TypeId} {x y a b : Value} {i : Nat} {L : Array Bool} {w' : World}
theorem Sto1.skip (h : Sto1 w0 g t x y a b i L w') {j : Nat} (hj : j ≠ i) {w2 : World} (hm : Mod (fun _ => False) w' w2) : Sto1 w0 g t x y a b i (L.setIfInBounds j true) w2 :=
  ⟨h.base.trans hm (fun _ _ e => e.elim), by rw [getD_set_ne false hj]; exact hm.bk h.one id⟩
theorem Sto1.put (h : Sto1 w0 g t x y a b i L w') (hu : L.getD i true = false) : Sto1 w0 g t x y a b i (L.setIfInBounds i true) ((w'.setCell ⟨g, 0, none⟩ a).setCell ⟨g, 1, none⟩ b) := by
  refine ⟨(h.base.setCell (p := ⟨g, 0, none⟩) (fun _ => rfl) _).setCell (p := ⟨g, 1, none⟩) (fun _ => rfl) _, ?_⟩
  have h1 := h.one
  rw [getD_un hu] at h1
  rw [if_pos (getD_put hu)]
  exact (h1.set 0 _).set 1 _
end

/-- Two blocks of two cells, stored into by operations i and j. -/
structure Sto2 (w0 : World) (g k : Nat) (t : TypeId) (x y a b : Value) (i : Nat) (p q c d : Value) (j : Nat) (L : Array Bool) (w' : World) : Prop where
  base : Mod (fun m => m = g ∨ m = k) w0 w'
  one : Bk w' g t (if L.getD i false then [a, b] else [x, y])
  two : Bk w' k t (if L.getD j false then [c, d] else [p, q])
section
variable {w0 : World} {g k : Nat} {t : TypeId} {x y a b : Value} {i : Nat} {p q c d : Value} {j : Nat} {L : Array Bool} {w' : World}
theorem Sto2.skip (h : Sto2 w0 g k t x y a b i p q c d j L w') {n : Nat} (h1 : n ≠ i) (h2 : n ≠ j) {w2 : World} (hm : Mod (fun _ => False) w' w2) : Sto2 w0 g k t x y a b i p q c d j (L.setIfInBounds n true) w2 :=
  ⟨h.base.trans hm (fun _ _ e => e.elim), by rw [getD_set_ne false h1]; exact hm.bk h.one id, by rw [getD_set_ne false h2]; exact hm.bk h.two id⟩
theorem Sto2.put1 (h : Sto2 w0 g k t x y a b i p q c d j L w') (hij : i ≠ j) (hgk : g ≠ k) (hu : L.getD i true = false) : Sto2 w0 g k t x y a b i p q c d j (L.setIfInBounds i true) ((w'.setCell ⟨g, 0, none⟩ a).setCell ⟨g, 1, none⟩ b) := by
  refine ⟨(h.base.setCell (p := ⟨g, 0, none⟩) (fun _ => .inl rfl) _).setCell (p := ⟨g, 1, none⟩) (fun _ => .inl rfl) _, ?_, ?_⟩
  · have h1 := h.one
    rw [getD_un hu] at h1
    rw [if_pos (getD_put hu)]
    exact (h1.set 0 _).set 1 _
  · rw [getD_set_ne false hij]
    exact (h.two.far (Ne.symm hgk) _).far (Ne.symm hgk) _
theorem Sto2.put2 (h : Sto2 w0 g k t x y a b i p q c d j L w') (hij : i ≠ j) (hgk : g ≠ k) (hu : L.getD j true = false) : Sto2 w0 g k t x y a b i p q c d j (L.setIfInBounds j true) ((w'.setCell ⟨k, 0, none⟩ c).setCell ⟨k, 1, none⟩ d) := by
  refine ⟨(h.base.setCell (p := ⟨k, 0, none⟩) (fun _ => .inr rfl) _).setCell (p := ⟨k, 1, none⟩) (fun _ => .inr rfl) _, ?_, ?_⟩
  · rw [getD_set_ne false (Ne.symm hij)]
    exact (h.one.far hgk _).far hgk _
  · have h1 := h.two
    rw [getD_un hu] at h1
    rw [if_pos (getD_put hu)]
    exact (h1.set 0 _).set 1 _
end

/-- Two new blocks (made by operations i1 and i2), stored into by j1 and j2: γ is where they lie. -/
structure New2 (w0 : World) (t : TypeId) (x y : Value) (i1 j1 : Nat) (a b : Value) (i2 j2 : Nat) (c d : Value) (L : Array Bool) (γ : Nat × Nat) (w' : World) : Prop where
  base : Mod (fun _ => False) w0 w'
  o1 : L.getD j1 false = true → L.getD i1 false = true
  o2 : L.getD j2 false = true → L.getD i2 false = true
  one : L.getD i1 false = true → w0.heap.size ≤ γ.1 ∧ Bk w' γ.1 t (if L.getD j1 false then [a, b] else [x, y])
  two : L.getD i2 false = true → w0.heap.size ≤ γ.2 ∧ Bk w' γ.2 t (if L.getD j2 false then [c, d] else [x, y])
  ne : L.getD i1 false = true → L.getD i2 false = true → γ.1 ≠ γ.2
section
variable {w0 : World} {t : TypeId} {x y a b c d : Value} {i1 j1 i2 j2 : Nat} {L : Array Bool} {γ : Nat × Nat} {w' : World}
theorem New2.skip (h : New2 w0 t x y i1 j1 a b i2 j2 c d L γ w') {n : Nat} (h1 : n ≠ i1) (h2 : n ≠ j1) (h3 : n ≠ i2) (h4 : n ≠ j2) {w2 : World} (hm : Mod (fun _ => False) w' w2) : New2 w0 t x y i1 j1 a b i2 j2 c d (L.setIfInBounds n true) γ w2 := by
  refine ⟨h.base.trans hm (fun _ _ e => e), ?_, ?_, ?_, ?_, ?_⟩
  · rw [getD_set_ne false h1, getD_set_ne false h2]; exact h.o1
  · rw [getD_set_ne false h3, getD_set_ne false h4]; exact h.o2
  · rw [getD_set_ne false h1, getD_set_ne false h2]; exact fun e => ⟨(h.one e).1, hm.bk (h.one e).2 id⟩
  · rw [getD_set_ne false h3, getD_set_ne false h4]; exact fun e => ⟨(h.two e).1, hm.bk (h.two e).2 id⟩
  · rw [getD_set_ne false h1, getD_set_ne false h3]; exact h.ne
theorem New2.new1 (h : New2 w0 t x y i1 j1 a b i2 j2 c d L γ w') (d1 : i1 ≠ j1) (d2 : i1 ≠ i2) (d3 : i1 ≠ j2) (hu : L.getD i1 true = false) : New2 w0 t x y i1 j1 a b i2 j2 c d (L.setIfInBounds i1 true) (w'.heap.size, γ.2) (w'.alloc (.cells #[x, y] t)) := by
  have hj : L.getD j1 false = false := by
    cases e : L.getD j1 false with
    | false => rfl
    | true => have := h.o1 e; rw [getD_un hu] at this; cases this
  refine ⟨h.base.alloc _, fun _ => getD_put hu, ?_, fun _ => ⟨h.base.size, ?_⟩, ?_, fun _ e => ?_⟩
  · rw [getD_set_ne false d2, getD_set_ne false d3]; exact h.o2
  · rw [getD_set_ne false d1, hj]; exact Bk.new _ _ _
  · rw [getD_set_ne false d2, getD_set_ne false d3]; exact fun e => ⟨(h.two e).1, (h.two e).2.alloc _⟩
  · rw [getD_set_ne false d2] at e
    have := (h.two e).2.lt
    show w'.heap.size ≠ γ.2
    omega
theorem New2.new2 (h : New2 w0 t x y i1 j1 a b i2 j2 c d L γ w') (d1 : i2 ≠ j2) (d2 : i2 ≠ i1) (d3 : i2 ≠ j1) (hu : L.getD i2 true = false) : New2 w0 t x y i1 j1 a b i2 j2 c d (L.setIfInBounds i2 true) (γ.1, w'.heap.size) (w'.alloc (.cells #[x, y] t)) := by
  have hj : L.getD j2 false = false := by
    cases e : L.getD j2 false with
    | false => rfl
    | true => have := h.o2 e; rw [getD_un hu] at this; cases this
  refine ⟨h.base.alloc _, ?_, fun _ => getD_put hu, ?_, fun _ => ⟨h.base.size, ?_⟩, fun e _ => ?_⟩
  · rw [getD_set_ne false d2, getD_set_ne false d3]; exact h.o1
  · rw [getD_set_ne false d2, getD_set_ne false d3]; exact fun e => ⟨(h.one e).1, (h.one e).2.alloc _⟩
  · rw [getD_set_ne false d1, hj]; exact Bk.new _ _ _
  · rw [getD_set_ne false d2] at e
    have := (h.one e).2.lt
    show γ.1 ≠ w'.heap.size
    omega
theorem New2.put1 (h : New2 w0 t x y i1 j1 a b i2 j2 c d L γ w') (d1 : j1 ≠ i1) (d2 : j1 ≠ i2) (d3 : j1 ≠ j2) (hu : L.getD j1 true = false) (hl : L.getD i1 false = true) :
    New2 w0 t x y i1 j1 a b i2 j2 c d (L.setIfInBounds j1 true) γ ((w'.setCell ⟨γ.1, 0, none⟩ a).setCell ⟨γ.1, 1, none⟩ b) := by
  obtain ⟨h1, h2⟩ := h.one hl
  rw [getD_un hu] at h2
  refine ⟨(h.base.setNew (p := ⟨γ.1, 0, none⟩) h1 _).setNew (p := ⟨γ.1, 1, none⟩) h1 _, ?_, ?_, fun _ => ⟨h1, ?_⟩, ?_, ?_⟩
  · rw [getD_set_ne false d1]; exact fun _ => hl
  · rw [getD_set_ne false d2, getD_set_ne false d3]; exact h.o2
  · rw [if_pos (getD_put hu)]; exact (h2.set 0 _).set 1 _
  · rw [getD_set_ne false d2, getD_set_ne false d3]
    exact fun e => ⟨(h.two e).1, ((h.two e).2.far (Ne.symm (h.ne hl e)) _).far (Ne.symm (h.ne hl e)) _⟩
  · rw [getD_set_ne false d1, getD_set_ne false d2]; exact h.ne
theorem New2.put2 (h : New2 w0 t x y i1 j1 a b i2 j2 c d L γ w') (d1 : j2 ≠ i2) (d2 : j2 ≠ i1) (d3 : j2 ≠ j1) (hu : L.getD j2 true = false) (hl : L.getD i2 false = true) :
    New2 w0 t x y i1 j1 a b i2 j2 c d (L.setIfInBounds j2 true) γ ((w'.setCell ⟨γ.2, 0, none⟩ c).setCell ⟨γ.2, 1, none⟩ d) := by
  obtain ⟨h1, h2⟩ := h.two hl
  rw [getD_un hu] at h2
  refine ⟨(h.base.setNew (p := ⟨γ.2, 0, none⟩) h1 _).setNew (p := ⟨γ.2, 1, none⟩) h1 _, ?_, ?_, ?_, fun _ => ⟨h1, ?_⟩, ?_⟩
  · rw [getD_set_ne false d2, getD_set_ne false d3]; exact h.o1
  · rw [getD_set_ne false d1]; exact fun _ => hl
  · rw [getD_set_ne false d2, getD_set_ne false d3]
    exact fun e => ⟨(h.one e).1, ((h.one e).2.far (h.ne e hl) _).far (h.ne e hl) _⟩
  · rw [if_pos (getD_put hu)]; exact (h2.set 0 _).set 1 _
  · rw [getD_set_ne false d2, getD_set_ne false d1]; exact h.ne
end
end Go.Proofs.Ytadiajlegajclaa
