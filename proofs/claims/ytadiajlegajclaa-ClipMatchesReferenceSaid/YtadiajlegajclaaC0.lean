/- The arguments opened: points, boxes, lists of points. -/
import Derived.Test.YtadiajlegajclaaA2
import Derived.ProofKit
import Derived.OpenShut
import Derived.ChangeOld
import Derived.Deep.Slices
set_option linter.unusedVariables false
set_option linter.unusedSimpArgs false
namespace Go.Proofs.Ytadiajlegajclaa
open Go.RowKit Go.ChangeShapes Go.WideShapes Go.ChangeAt

theorem Try.cells24 : Try.prog.cellsOf 24 = 2 := by kernel_rfl
theorem Try.cells26 : Try.prog.cellsOf 26 = 4 := by kernel_rfl
theorem Try.cells3 : Try.prog.cellsOf 3 = 1 := by kernel_rfl
theorem own : ownKnob Try.prog.godebug = none := by kernel_rfl
theorem laidOut : laidOutB Try.prog = true := by kernel_rfl

section
variable {H : Type} {enc : TypeId × Value → H} {w : World} {base : Nat} {spare : Nat → Bool} {held : Bool}

theorem wf_i64 {n : Int} (h : (Lit.int .i64 n).wf = true) : -9223372036854775808 ≤ n ∧ n ≤ 9223372036854775807 := by
  simp [Lit.wf, IntKind.min, IntKind.max, IntKind.signed, IntKind.bits] at h; omega

abbrev Pt.cells (p : Pt) : List Value := [.int .i64 p.x, .int .i64 p.y]
theorem pt_of_cells {fuel : Nat} {cs : List Value} {x : DataW H × List MemPlace} (h : DataW.trod enc Try.prog w base spare held fuel 24 cs = some x) : ∃ p : Pt, cs = p.cells ∧ PtWf p := by
  obtain ⟨xs, n, _, _, hl, hxl, hf⟩ := DataW.trod_struct Try.underlying24 h
  rw [Try.cells24] at hl
  match cs, hl with
  | [v0, v1], _ =>
    have h0 : DataW.trod enc Try.prog w base spare held n 3 (List.take (Try.prog.cellsOf 3) (List.drop 0 [v0, v1])) = xs[0]? := hf 0 _ rfl
    have h1 : DataW.trod enc Try.prog w base spare held n 3 (List.take (Try.prog.cellsOf 3) (List.drop 1 [v0, v1])) = xs[1]? := hf 1 _ rfl
    have hx : xs.length = 2 := hxl
    rw [List.getElem?_eq_getElem (by omega)] at h0 h1
    simp only [Try.cells3, List.drop_zero, List.drop_succ_cons, List.take_succ_cons, List.take_zero] at h0 h1
    obtain ⟨n0, e0, _, w0⟩ := DataW.trod_int Try.underlying3 h0
    obtain ⟨n1, e1, _, w1⟩ := DataW.trod_int Try.underlying3 h1
    simp only [List.cons.injEq, and_true] at e0 e1
    subst e0; subst e1
    exact ⟨⟨n0, n1⟩, rfl, wf_i64 w0, wf_i64 w1⟩
theorem open_pt {r : Reach} {b0 : Nat} {v : Value} {d : DataW H} {p : List MemPlace} (hv : Value.okWide Try.prog w r b0 24 v) (h : DataW.Trod enc Try.prog w base spare held 24 v d p) : ∃ a : Pt, v = ptV a ∧ PtWf a := by
  obtain ⟨fuel, hf⟩ := h
  obtain ⟨cs, rfl, hsz⟩ := okWide_struct Try.underlying24 hv
  obtain ⟨a, hc, hw⟩ := pt_of_cells hf
  refine ⟨a, ?_, hw⟩
  have : cs.toList = a.cells := by simpa [Value.cells] using hc
  have e : cs = a.cells.toArray := by rw [← this]
  rw [e]
theorem open_box {r : Reach} {b0 : Nat} {v : Value} {d : DataW H} {p : List MemPlace} (hv : Value.okWide Try.prog w r b0 26 v) (h : DataW.Trod enc Try.prog w base spare held 26 v d p) : ∃ b : Bx, v = bxV b ∧ BxWf b := by
  obtain ⟨fuel, hf⟩ := h
  obtain ⟨cs, rfl, hsz⟩ := okWide_struct Try.underlying26 hv
  obtain ⟨xs, n, _, _, hl, hxl, hf⟩ := DataW.trod_struct Try.underlying26 hf
  rw [Try.cells26] at hl
  simp only [Value.cells] at hl hf
  obtain ⟨l, rfl⟩ : ∃ l : List Value, cs = l.toArray := ⟨cs.toList, by simp⟩
  match l, hl with
  | [v0, v1, v2, v3], _ =>
    have h0 : DataW.trod enc Try.prog w base spare held n 24 (List.take (Try.prog.cellsOf 24) (List.drop 0 [v0, v1, v2, v3])) = xs[0]? := hf 0 _ rfl
    have h1 : DataW.trod enc Try.prog w base spare held n 24 (List.take (Try.prog.cellsOf 24) (List.drop 2 [v0, v1, v2, v3])) = xs[1]? := hf 1 _ rfl
    have hx : xs.length = 2 := hxl
    rw [List.getElem?_eq_getElem (by omega)] at h0 h1
    obtain ⟨a, ha, wa⟩ := pt_of_cells h0
    obtain ⟨c, hc, wc⟩ := pt_of_cells h1
    simp only [Try.cells24, List.drop_zero, List.drop_succ_cons, List.take_succ_cons, List.take_zero, List.cons.injEq, and_true] at ha hc
    obtain ⟨rfl, rfl⟩ := ha
    obtain ⟨rfl, rfl⟩ := hc
    exact ⟨⟨a, c⟩, rfl, wa, wc⟩

theorem open_pts {r : Reach} {b0 : Nat} {v : Value} {d : DataW H} {p : List MemPlace} (hv : Value.okWide Try.prog w r b0 22 v) (h : DataW.Trod enc Try.prog w base spare held 22 v d p) :
    ∃ A c l, v = .slice A (List.length l) c ∧ PtsAt w w.heap.size A l ∧ l.length ≤ maxLen ∧ ∀ a ∈ l, PtWf a := by
  obtain ⟨A, n, c, rfl⟩ := okWide_slice Try.underlying22 hv
  obtain ⟨fuel, hf⟩ := h
  rcases Go.Deep.open_slice Try.underlying22 hf with ⟨hcs, _⟩ | ⟨a, len, cap, m, n', D, Pl, hcs, _, hl, hm, hmm, _, hi⟩
  · simp [Value.cells] at hcs
    obtain ⟨rfl, rfl, rfl⟩ := hcs
    exact ⟨none, 0, [], rfl, (fun k a hk => by simp at hk), by simp [maxLen], by simp⟩
  · simp [Value.cells] at hcs
    obtain ⟨rfl, rfl, rfl⟩ := hcs
    have hle : n ≤ m := by rw [hmm]; split <;> omega
    have ex : ∀ i, i < n → ∃ x : Pt, w.cells? base (a.add (i * 2)) 2 = some x.cells ∧ PtWf x := by
      intro i hin
      obtain ⟨cs', h1, h2⟩ := hi i (by omega)
      obtain ⟨x, rfl, hw⟩ := pt_of_cells h2
      rw [Try.cells24] at h1
      exact ⟨x, h1, hw⟩
    haveI : Inhabited Pt := ⟨⟨0, 0⟩⟩
    obtain ⟨f, hf'⟩ := Go.Deep.choose_lt ex
    refine ⟨some a, c, (List.range n).map f, by simp, ?_, by simp; omega, ?_⟩
    · intro k x hk
      have hkn : k < n := by
        have := (List.getElem?_eq_some_iff.1 hk).1
        simpa using this
      have hx : x = f k := by simpa [hkn] using hk.symm
      subst hx
      obtain ⟨_, _, hat⟩ := World.cells?_some (hf' k hkn).1
      have h0 : w.cell? (a.add (k * 2)) = some (.int .i64 (f k).x) := by simpa [Go.Deep.add_add] using hat 0 (by decide)
      have h1 : w.cell? ((a.add (k * 2)).add 1) = some (.int .i64 (f k).y) := by simpa using hat 1 (by decide)
      have hspot : a.spot = none := by
        have h00 : w.cell? a = some (.int .i64 (f 0).x) := by
          have := (World.cells?_some (hf' 0 (by omega)).1).2.2 0 (by decide)
          simpa [Addr.add] using this
        exact World.cell?_spot h00
      obtain ⟨b, off, spot⟩ := a
      simp only at hspot
      subst hspot
      have hadd : ∀ j, (⟨b, off, none⟩ : Addr).add j = ⟨b, off + j, none⟩ := fun j => by unfold Addr.add; split <;> simp_all
      refine ⟨b, off, rfl, ?_, ?_, ?_⟩
      · have := World.block_lt_of_cell? w _ h0
        rwa [hadd] at this
      · rw [hadd] at h0; exact h0
      · rw [Go.Deep.add_add, hadd] at h1; rw [Nat.add_assoc]; exact h1
    · intro x hx
      obtain ⟨i, hi', rfl⟩ := List.mem_map.1 hx
      exact (hf' i (List.mem_range.1 hi')).2
end

end Go.Proofs.Ytadiajlegajclaa
