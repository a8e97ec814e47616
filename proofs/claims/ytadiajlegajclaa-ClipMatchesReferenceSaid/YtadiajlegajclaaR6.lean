/- A slice of slices of points, each of which may grow. No program is named. -/
import Derived.Test.YtadiajlegajclaaP10
import Derived.Test.YtadiajlegajclaaR5
set_option linter.unusedVariables false
set_option linter.unusedSimpArgs false
namespace Go.Proofs.Ytadiajlegajclaa
open Go.RowKit

structure RawRow (w : World) (S : Nat → Prop) (v : Value) (vs : List Value) (ls : List (List Pt)) : Prop where
  own : w.ownsRow 0 22 1 v vs.length vs
  len : vs.length = ls.length
  inS : ∀ k, v.ownBlock = some k → S k
  each : ∀ (i : Nat) (u : Value) (l : List Pt), vs[i]? = some u → ls[i]? = some l → OwnPts w u l ∧ (∀ k, u.ownBlock = some k → S k) ∧ u.oneCell' = true
  apart : ∀ (i j : Nat) (u u' : Value) (k : Nat), i ≠ j → vs[i]? = some u → vs[j]? = some u' → u.ownBlock = some k → u'.ownBlock ≠ some k
theorem RawRow.parts {w : World} {S : Nat → Prop} {v : Value} {vs : List Value} {ls : List (List Pt)} (h : RawRow w S v vs ls) : PartsAt w S v ls := ⟨vs, h.own, h.len, h.inS, h.each⟩
theorem RawRow.nil (w : World) (S : Nat → Prop) : RawRow w S (.slice none 0 0) [] [] :=
  ⟨World.ownsRow_nil _ _ _ _, rfl, fun k hk => by simp [Value.ownBlock] at hk, fun i u l hu _ => by simp at hu, fun i j u u' k _ hu => by simp at hu⟩
theorem RawRow.mod {w w' : World} {S : Nat → Prop} {v : Value} {vs : List Value} {ls : List (List Pt)} (h : RawRow w S v vs ls) (hm : Mod Nothing w w') : RawRow w' S v vs ls :=
  ⟨own_keep h.own fun k hk => hm.block k (own_lt h.own hk) id, h.len, h.inS, fun i u l hu hl => ⟨own_keep (h.each i u l hu hl).1 fun k hk => hm.block k (own_lt (h.each i u l hu hl).1 hk) id, (h.each i u l hu hl).2⟩, h.apart⟩
theorem RawRow.elem {w : World} {S : Nat → Prop} {v : Value} {vs : List Value} {ls : List (List Pt)} (h : RawRow w S v vs ls) {i : Nat} {u : Value} (hu : vs[i]? = some u) : ∃ l, ls[i]? = some l := by
  have hi := (List.getElem?_eq_some_iff.1 hu).1
  exact ⟨_, List.getElem?_eq_getElem (by rw [← h.len]; exact hi)⟩
theorem own_set {w : World} {b : Nat} {e : TypeId} {v : Value} {n g c : Nat} {xs : List Value} (h : w.ownsRow b e 1 v n xs) (hv : v = .slice (some ⟨g, 0, none⟩) n c) {i : Nat} (hi : i < n) (u : Value) :
    (w.setCell ⟨g, i, none⟩ u).ownsRow b e 1 v n (xs.set i u) := by
  rcases h.2 with ⟨hv', _⟩ | ⟨g', cap, cur, hv', hb, hh, hnc, hcm, hcs, ht⟩
  · rw [hv] at hv'; cases hv'
  · rw [hv] at hv'
    injection hv' with e1 e2 e3
    injection e1 with e1
    injection e1 with e1
    subst e1
    refine ⟨by rw [List.length_set]; exact h.1, .inr ⟨g, cap, (cur.toList.set i u).toArray, by rw [hv, e3], hb, ?_, hnc, hcm, by simpa using hcs, ?_⟩⟩
    · have hbk : Bk w g e cur.toList := by unfold Bk; rw [hh]
      exact hbk.set i u
    · show (cur.toList.set i u).take (n * 1) = _
      rw [List.take_set, ht]
/-- A group more. -/
theorem RawRow.push {w W w2 : World} {S : Nat → Prop} {v u : Value} {vs : List Value} {ls : List (List Pt)} {l : List Pt} {g cap : Nat} (h : RawRow w S v vs ls) (hu : OwnPts W u l) (hf : ∀ k, u.ownBlock = some k → w.heap.size ≤ k)
    (hW : Mod Nothing w W) (hgrow : W.grownBy w2 v.ownBlock) (hat : v.ownBlock = some g ∨ g = W.heap.size) (hS : Up S w) (hown : w2.ownsRow 0 22 1 (.slice (some ⟨g, 0, none⟩) (vs.length + 1) cap) (vs.length + 1) (vs ++ [u])) :
    RawRow w2 S (.slice (some ⟨g, 0, none⟩) (vs.length + 1) cap) (vs ++ [u]) (ls ++ [l]) := by
  have hk := h.mod hW
  have keep : ∀ {u l}, OwnPts W u l → OwnPts w2 u l := fun {u l} h => own_keep h fun k hk' => hgrow.block k (own_lt h hk') (fun e => own_apart h hk.own (by decide) hk' e.symm)
  refine ⟨by simpa using hown, by simp [h.len], fun k hk' => ?_, fun i u' l' hi hl' => ?_, fun i j a c k hij hi hj ha hc => ?_⟩
  · have hk'' : g = k := by simpa [Value.ownBlock] using hk'
    subst hk''
    rcases hat with hat | hat
    · exact h.inS _ hat
    · exact hS _ (by rw [hat]; exact hW.size)
  · by_cases hlt : i < vs.length
    · rw [List.getElem?_append_left hlt] at hi
      rw [List.getElem?_append_left (by rw [← h.len]; exact hlt)] at hl'
      obtain ⟨h1, h2, h3⟩ := hk.each i u' l' hi hl'
      exact ⟨keep h1, h2, h3⟩
    · have hie : i = vs.length := by
        have := (List.getElem?_eq_some_iff.1 hi).1
        simp at this; omega
      subst hie
      rw [List.getElem?_append_right (by omega)] at hi
      rw [List.getElem?_append_right (by rw [h.len]; omega)] at hl'
      simp at hi
      simp [h.len] at hl'
      subst hi; subst hl'
      exact ⟨keep hu, fun k hk' => hS k (hf k hk'), hu.one⟩
  · have old : ∀ {i : Nat} {u : Value}, vs[i]? = some u → ∀ k, u.ownBlock = some k → k < w.heap.size := fun {i u} hu k hk' => by
      obtain ⟨l, hl⟩ := h.elem hu
      exact own_lt (h.each i u l hu hl).1 hk'
    have at_ : ∀ {i : Nat} {a : Value}, (vs ++ [u])[i]? = some a → (i < vs.length ∧ vs[i]? = some a) ∨ (i = vs.length ∧ a = u) := fun {i a} hi => by
      by_cases hlt : i < vs.length
      · rw [List.getElem?_append_left hlt] at hi; exact .inl ⟨hlt, hi⟩
      · have hie : i = vs.length := by
          have := (List.getElem?_eq_some_iff.1 hi).1
          simp at this; omega
        subst hie
        rw [List.getElem?_append_right (by omega)] at hi
        simp at hi
        exact .inr ⟨rfl, hi.symm⟩
    rcases at_ hi with ⟨h1, h2⟩ | ⟨h1, h2⟩
    · rcases at_ hj with ⟨h3, h4⟩ | ⟨h3, h4⟩
      · exact h.apart i j a c k hij h2 h4 ha hc
      · subst h4
        have := old h2 k ha
        have := hf k hc
        omega
    · rcases at_ hj with ⟨h3, h4⟩ | ⟨h3, h4⟩
      · subst h2
        have := old h4 k hc
        have := hf k ha
        omega
      · omega
/-- A group grows. -/
theorem RawRow.grow {w W w2 : World} {S : Nat → Prop} {v u : Value} {vs : List Value} {ls : List (List Pt)} {l l' : List Pt} {i g m cap gO cO : Nat} (h : RawRow w S v vs ls) (hi : vs[i]? = some u) (hl : ls[i]? = some l)
    (hW : Mod Nothing w W) (hgrow : W.grownBy w2 u.ownBlock) (hat : u.ownBlock = some g ∨ w.heap.size ≤ g) (hS : Up S w) (hm : m = l'.length) (hown : OwnPts w2 (.slice (some ⟨g, 0, none⟩) m cap) l') (hv : v = .slice (some ⟨gO, 0, none⟩) vs.length cO) :
    RawRow (w2.setCell ⟨gO, i, none⟩ (.slice (some ⟨g, 0, none⟩) m cap)) S v (vs.set i (.slice (some ⟨g, 0, none⟩) m cap)) (ls.set i l') ∧ Mod S w (w2.setCell ⟨gO, i, none⟩ (.slice (some ⟨g, 0, none⟩) m cap)) := by
  have hilt := (List.getElem?_eq_some_iff.1 hi).1
  have hk := h.mod hW
  obtain ⟨hu1, hu2, hu3⟩ := h.each i u l hi hl
  have hvb : v.ownBlock = some gO := by rw [hv]; rfl
  have hne : ∀ k, u.ownBlock = some k → k ≠ gO := fun k hk' e => own_apart hu1 h.own (by decide) hk' (by rw [hvb, e])
  have o2 : w2.ownsRow 0 22 1 v vs.length vs := own_keep hk.own fun k hk' => hgrow.block k (own_lt hk.own hk') (fun e => own_apart hk.own (hk.each i u l hi hl).1 (by decide) hk' e.symm)
  have hgO : g ≠ gO := fun e => own_apart hown o2 (by decide) (k := g) rfl (by rw [hvb, e])
  have hgS : S g := by
    rcases hat with hat | hat
    · exact hu2 g hat
    · exact hS g hat
  refine ⟨⟨by rw [List.length_set]; exact own_set o2 hv hilt _, by rw [List.length_set, List.length_set]; exact h.len, h.inS, fun j a c hj hc => ?_, fun j j' a c k hjj hj hj' ha hc => ?_⟩, ?_⟩
  · by_cases hji : j = i
    · subst hji
      rw [List.getElem?_set_self hilt] at hj
      rw [List.getElem?_set_self (by rw [← h.len]; exact hilt)] at hc
      injection hj with hj
      injection hc with hc
      subst hj; subst hc
      refine ⟨own_keep hown fun k hk' => Below.heap_setCell _ _ _ _ ?_, fun k hk' => ?_, rfl⟩
      · have : g = k := by simpa [Value.ownBlock] using hk'
        subst this; exact hgO
      · have : g = k := by simpa [Value.ownBlock] using hk'
        subst this; exact hgS
    · rw [List.getElem?_set_ne (Ne.symm hji)] at hj
      rw [List.getElem?_set_ne (Ne.symm hji)] at hc
      obtain ⟨h1, h2, h3⟩ := hk.each j a c hj hc
      refine ⟨own_keep h1 fun k hk' => ?_, h2, h3⟩
      rw [Below.heap_setCell _ _ _ _ (fun e => own_apart h1 hk.own (by decide) hk' (by rw [hvb, e]))]
      exact hgrow.block k (own_lt h1 hk') (fun e => h.apart j i a u k hji hj hi hk' e.symm)
  · have old : ∀ {j : Nat} {a : Value}, vs[j]? = some a → ∀ k, a.ownBlock = some k → k < w.heap.size := fun {j a} ha k hk' => by
      obtain ⟨l, hl⟩ := h.elem ha
      exact own_lt (h.each j a l ha hl).1 hk'
    by_cases hji : j = i
    · subst hji
      rw [List.getElem?_set_self hilt] at hj
      rw [List.getElem?_set_ne hjj] at hj'
      injection hj with hj
      subst hj
      have hgk : g = k := by simpa [Value.ownBlock] using ha
      subst hgk
      rcases hat with hat | hat
      · exact h.apart _ _ _ _ _ hjj hi hj' hat hc
      · have := old hj' g hc; omega
    · rw [List.getElem?_set_ne (Ne.symm hji)] at hj
      by_cases hji' : j' = i
      · subst hji'
        rw [List.getElem?_set_self hilt] at hj'
        injection hj' with hj'
        subst hj'
        have hgk : g = k := by simpa [Value.ownBlock] using hc
        subst hgk
        rcases hat with hat | hat
        · exact h.apart _ _ _ _ _ hji hj hi ha hat
        · have := old hj g ha; omega
      · rw [List.getElem?_set_ne (Ne.symm hji')] at hj'
        exact h.apart _ _ _ _ _ hjj hj hj' ha hc
  · exact (((hW.mono (S' := S) (fun _ _ e => e.elim)).grown hgrow (fun k hk' _ => hu2 k hk')).setCell (p := ⟨gO, i, none⟩) (fun _ => h.inS gO hvb) _)
theorem RawRow.form {w : World} {S : Nat → Prop} {v : Value} {vs : List Value} {ls : List (List Pt)} (h : RawRow w S v vs ls) (hne : ls ≠ []) : ∃ g c, v = .slice (some ⟨g, 0, none⟩) vs.length c ∧ g < w.heap.size ∧ ∀ i u, vs[i]? = some u → w.cell? ⟨g, i, none⟩ = some u ∧ w.frozen? ⟨g, i, none⟩ = false := by
  rcases h.own.2 with ⟨hv', hz⟩ | ⟨g', cap, cur, hv', hb, hh, hnc, hcm, hcs, ht⟩
  · exfalso
    apply hne
    exact List.eq_nil_of_length_eq_zero (by rw [← h.len]; exact hz)
  · refine ⟨g', cap, hv', lt_of_block hh, fun i u hu => ?_⟩
    have hbk : Bk w g' 22 cur.toList := by unfold Bk; rw [hh]
    refine ⟨?_, hbk.frozen i⟩
    rw [hbk.cell i]
    have hi := (List.getElem?_eq_some_iff.1 hu).1
    rw [← ht, List.getElem?_take_of_lt (by omega)] at hu
    exact hu
end Go.Proofs.Ytadiajlegajclaa
