/- The points of a line that lie in the box occur in the parts in order. No program is named. -/
import Derived.Test.YtadiajlegajclaaP8
set_option linter.unusedSimpArgs false
set_option linter.unusedVariables false
namespace Go.Proofs.Ytadiajlegajclaa

def ptOf (l : List Pt) (i : Nat) : Pt := l.getD i ⟨0, 0⟩
/-- None of the pieces at place i has another point. -/
def aloneB (b : Bx) (l : List Pt) (i : Nat) : Bool :=
  (decide (i = 0) || ptEqB (rPiece (ptOf l (i - 1)) (ptOf l i) b).1 (ptOf l i)) && (decide (l.length ≤ i + 1) || ptEqB (rPiece (ptOf l i) (ptOf l (i + 1)) b).2.1 (ptOf l i))
/-- Place i's corner. -/
def corn (b : Bx) (l : List Pt) (i : Nat) : List Pt := if inB (ptOf l i) b && !aloneB b l i then [ptOf l i] else []
def cornTo (b : Bx) (l : List Pt) (k : Nat) : List Pt := (List.range k).flatMap (corn b l)
def cornFrom (b : Bx) (l : List Pt) (i : Nat) : List Pt := (List.range' i (l.length - i)).flatMap (corn b l)
theorem cornFrom_zero (b : Bx) (l : List Pt) : cornFrom b l 0 = cornTo b l l.length := by
  unfold cornFrom cornTo
  rw [List.range_eq_range', Nat.sub_zero]
theorem cornFrom_succ (b : Bx) (l : List Pt) {i : Nat} (h : i < l.length) : cornFrom b l i = corn b l i ++ cornFrom b l (i + 1) := by
  unfold cornFrom
  obtain ⟨m, hm⟩ : ∃ m, l.length - i = m + 1 := ⟨l.length - i - 1, by omega⟩
  rw [hm, show l.length - (i + 1) = m by omega]
  rfl
theorem cornTo_succ (b : Bx) (l : List Pt) (k : Nat) : cornTo b l (k + 1) = cornTo b l k ++ corn b l k := by
  unfold cornTo
  rw [List.range_succ, List.flatMap_append]
  simp

/-- What is known of a state of Line behind the first m + 1 points: the corners among the first m. -/
structure Corn (b : Bx) (l : List Pt) (m : Nat) (s : List Pt × List (List Pt)) : Prop where
  split : ∃ A C, cornTo b l m = A ++ C ∧ List.Sublist A s.2.flatten ∧ List.Sublist C (dd s.1) ∧ (C ≠ [] → 2 ≤ (dd s.1).length) ∧
    (inB (ptOf l m) b = true → 0 < m → ∃ G, dd s.1 = G ++ [ptOf l m] ∧ List.Sublist C G)
  first : inB (ptOf l m) b = true → 0 < m → (dd s.1).length < 2 → (rPiece (ptOf l (m - 1)) (ptOf l m) b).1 = ptOf l m
  zero : m = 0 → s.1 = []

theorem flush_flat (s : List Pt × List (List Pt)) : (flush s).2.flatten = s.2.flatten ++ (if 2 ≤ (dd s.1).length then dd s.1 else []) := by
  unfold flush
  dsimp only
  split
  · rename_i h
    rw [if_pos (show 2 ≤ (dd s.1).length from h)]
    simp
  · rename_i h
    rw [if_neg (show ¬ 2 ≤ (dd s.1).length from h)]
    simp
theorem dd_two (g : List Pt) (x y : Pt) : dd (g ++ [x, y]) = dput (dput (dd g) x) y := by
  rw [show g ++ [x, y] = (g ++ [x]) ++ [y] by simp, dd_snoc, dd_snoc]
theorem dput_ne {g : List Pt} {x : Pt} (h : g.getLast? ≠ some x) : dput g x = g ++ [x] := by unfold dput; rw [if_neg h]
theorem dput_eq {g : List Pt} {x : Pt} (h : g.getLast? = some x) : dput g x = g := by unfold dput; rw [if_pos h]
theorem dput_mem (g : List Pt) (x : Pt) : ∃ G, dput g x = G ++ [x] ∧ (dput g x = g ∨ G = g) := by
  by_cases h : g.getLast? = some x
  · rw [dput_eq h]
    obtain ⟨G, e⟩ := List.getLast?_eq_some_iff.1 h
    exact ⟨G, e, .inl rfl⟩
  · rw [dput_ne h]
    exact ⟨g, rfl, .inr rfl⟩
theorem dput_len (g : List Pt) (x : Pt) : g.length ≤ (dput g x).length := by
  unfold dput
  split
  · exact Nat.le_refl _
  · simp
theorem dput_sub (g : List Pt) (x : Pt) : List.Sublist g (dput g x) := by
  unfold dput
  split
  · exact List.Sublist.refl _
  · exact List.sublist_append_left _ _
theorem dput_pair {g : List Pt} {x y : Pt} (h : x ≠ y) : 2 ≤ (dput (dput g x) y).length := by
  have hl := dput_last g x
  rw [dput_ne (fun e => h (by rw [hl] at e; injection e))]
  obtain ⟨G, e, _⟩ := dput_mem g x
  rw [e]
  simp

theorem Corn.start (b : Bx) (l : List Pt) : Corn b l 0 ([], []) :=
  ⟨⟨[], [], rfl, List.Sublist.refl _, List.Sublist.refl _, fun h => absurd rfl h, fun _ h => absurd h (by decide)⟩, fun _ h => absurd h (by decide), fun _ => rfl⟩

theorem ptEq_refl (p : Pt) : ptEqB p p = true := ptEqB_iff.2 rfl

theorem Corn.step {b : Bx} (hb : BoxUp b) {l : List Pt} {m : Nat} {s : List Pt × List (List Pt)} (hm : m + 1 < l.length) (hne : ptOf l m ≠ ptOf l (m + 1)) (h : Corn b l m s) :
    Corn b l (m + 1) (lineStep b s (ptOf l m, ptOf l (m + 1))) := by
  obtain ⟨⟨A, C, hAC, hA, hC, hC2, hG⟩, hf, hz⟩ := h
  obtain ⟨z, hz0⟩ : ∃ z, z = ptOf l m := ⟨_, rfl⟩
  obtain ⟨y, hy0⟩ : ∃ y, y = ptOf l (m + 1) := ⟨_, rfl⟩
  rw [← hz0] at hG hf hne ⊢
  rw [← hy0] at hne ⊢
  have hcs : cornTo b l (m + 1) = A ++ C ++ corn b l m := by rw [cornTo_succ, hAC]
  unfold lineStep
  dsimp only
  cases hin : inB z b with
  | true =>
    rw [if_pos rfl]
    obtain ⟨hk, h1⟩ := piece_from (q := y) hb hin
    have hrp : rPiece z y b = pieceF z y b := rPiece_eq hb (.inl hin)
    rw [if_pos hk, h1]
    obtain ⟨Q, hQ⟩ : ∃ Q, Q = (pieceF z y b).2.1 := ⟨_, rfl⟩
    rw [← hQ]
    have hy1 : inB (ptOf l (m + 1)) b = true → Q = ptOf l (m + 1) := by rw [← hy0]; exact fun hi => hQ.trans (piece_to hb hi).2
    have hal : aloneB b l m = ((decide (m = 0) || ptEqB (rPiece (ptOf l (m - 1)) z b).1 z) && ptEqB Q z) := by
      unfold aloneB
      rw [decide_eq_false (show ¬ l.length ≤ m + 1 by omega), ← hz0, ← hy0, hrp, ← hQ]
      rfl
    have hcm : corn b l m = if aloneB b l m then [] else [z] := by
      unfold corn
      rw [← hz0, hin]
      cases aloneB b l m <;> rfl
    have hQz : inB (ptOf l (m + 1)) b = true → Q ≠ z := fun hi e => hne (e.symm.trans ((hy1 hi).trans hy0.symm))
    by_cases hm0 : m = 0
    · have hs0 := hz hm0
      have hC0 : C = [] := by
        rw [hs0] at hC
        exact List.eq_nil_of_sublist_nil hC
      have hgd : dd (s.1 ++ [z, Q]) = dput [z] Q := by rw [hs0, dd_two]; rfl
      by_cases hqz : Q = z
      · have hd : dd (s.1 ++ [z, Q]) = [z] := by rw [hgd, hqz]; exact dput_eq rfl
        have ha : aloneB b l m = true := by rw [hal, decide_eq_true hm0, hqz, ptEq_refl]; rfl
        refine ⟨⟨A, [], by rw [hcs, hC0, hcm, ha]; simp, hA, List.nil_sublist _, fun h => absurd rfl h, fun hi _ => absurd hqz (hQz hi)⟩, fun hi _ _ => absurd hqz (hQz hi), fun h => by omega⟩
      · have hd : dd (s.1 ++ [z, Q]) = [z] ++ [Q] := by rw [hgd]; exact dput_ne (fun e => hqz (by simpa using e.symm))
        have ha : aloneB b l m = false := by
          rw [hal]
          have : ptEqB Q z = false := by
            cases e : ptEqB Q z with
            | false => rfl
            | true => exact absurd (ptEqB_iff.1 e) hqz
          rw [this, Bool.and_false]
        refine ⟨⟨A, [z], by rw [hcs, hC0, hcm, ha]; simp, hA, by rw [hd]; exact List.sublist_append_left _ _, fun _ => by rw [hd]; simp, fun hi _ => ⟨[z], by rw [hd, hy1 hi], List.Sublist.refl _⟩⟩, fun hi _ hlt => ?_, fun h => by omega⟩
        rw [hd] at hlt
        simp at hlt
    · obtain ⟨G, hGe, hCG⟩ := hG hin (by omega)
      have hlast : (dd s.1).getLast? = some z := by rw [hGe]; simp
      have hgd : dd (s.1 ++ [z, Q]) = dput (dd s.1) Q := by rw [dd_two, dput_eq hlast]
      have hCz : List.Sublist (C ++ [z]) (dd s.1) := by rw [hGe]; exact List.Sublist.append hCG (List.Sublist.refl _)
      have hcorn : List.Sublist (C ++ corn b l m) (dd s.1) := by
        rw [hcm]
        split
        · rw [List.append_nil]; exact hC
        · exact hCz
      by_cases hqz : Q = z
      · have hd : dd (s.1 ++ [z, Q]) = dd s.1 := by rw [hgd, hqz, dput_eq hlast]
        refine ⟨⟨A, C ++ corn b l m, by rw [hcs, List.append_assoc], hA, by rw [hd]; exact hcorn, fun hnn => ?_, fun hi _ => absurd hqz (hQz hi)⟩, fun hi _ _ => absurd hqz (hQz hi), fun h => by omega⟩
        rw [hd]
        rcases Nat.lt_or_ge (dd s.1).length 2 with hlt | hge
        · exfalso
          have hc0 : C = [] := by
            cases hc : C with
            | nil => rfl
            | cons a t => have := hC2 (by rw [hc]; simp); omega
          have ha : aloneB b l m = true := by
            rw [hal, hqz, ptEq_refl, hf hin (by omega) hlt, ptEq_refl]
            simp
          apply hnn
          rw [hc0, hcm, ha]
          rfl
        · exact hge
      · have hd : dd (s.1 ++ [z, Q]) = dd s.1 ++ [Q] := by rw [hgd]; exact dput_ne (fun e => hqz (by rw [hlast] at e; injection e with e; exact e.symm))
        have hl2 : 2 ≤ (dd (s.1 ++ [z, Q])).length := by rw [hd, hGe]; simp
        refine ⟨⟨A, C ++ corn b l m, by rw [hcs, List.append_assoc], hA, by rw [hd]; exact hcorn.trans (List.sublist_append_left _ _), fun _ => hl2, fun hi _ => ⟨dd s.1, by rw [hd, hy1 hi], hcorn⟩⟩, fun hi _ hlt => ?_, fun h => by omega⟩
        have hlt' : (dd (s.1 ++ [z, Q])).length < 2 := hlt
        omega
  | false =>
    rw [if_neg (show ¬ (false = true) by decide)]
    have hcm : corn b l m = [] := by unfold corn; rw [← hz0, hin]; rfl
    have hfl := flush_flat s
    have hsub : List.Sublist (A ++ C) (flush s).2.flatten := by
      rw [hfl]
      refine List.Sublist.append hA ?_
      split
      · exact hC
      · rename_i h2
        cases hc : C with
        | nil => exact List.nil_sublist _
        | cons a t => exact absurd (hC2 (by rw [hc]; simp)) h2
    have hf1 : (flush s).1 = [] := rfl
    cases hk : (pieceF z y b).2.2 with
    | false =>
      rw [if_neg (show ¬ (false = true) by decide)]
      have hyo : inB (ptOf l (m + 1)) b = false := by
        rw [← hy0]
        cases e : inB y b with
        | false => rfl
        | true => rw [(piece_to (p := z) hb e).1] at hk; cases hk
      refine ⟨⟨A ++ C, [], by rw [hcs, hcm, List.append_nil], hsub, List.nil_sublist _, fun h => absurd rfl h, fun hi _ => absurd hi (by rw [hyo]; decide)⟩, fun hi _ _ => absurd hi (by rw [hyo]; decide), fun h => by omega⟩
    | true =>
      rw [if_pos rfl]
      show Corn b l (m + 1) ((flush s).1 ++ [(pieceF z y b).1, (pieceF z y b).2.1], (flush s).2)
      rw [hf1, List.nil_append]
      refine ⟨⟨A ++ C, [], by rw [hcs, hcm], hsub, List.nil_sublist _, fun h => absurd rfl h, fun hi _ => ?_⟩, fun hi _ hlt => ?_, fun h => by omega⟩
      · rw [← hy0] at hi ⊢
        have hQ : (pieceF z y b).2.1 = y := (piece_to hb hi).2
        obtain ⟨G, hG1, _⟩ := dput_mem [(pieceF z y b).1] y
        exact ⟨G, by rw [hQ]; exact hG1, List.nil_sublist _⟩
      · rw [← hy0] at hi ⊢
        have hQ : (pieceF z y b).2.1 = y := (piece_to hb hi).2
        rw [show m + 1 - 1 = m by omega, ← hz0, rPiece_eq hb (.inr hi)]
        by_cases he : (pieceF z y b).1 = y
        · exact he
        · exfalso
          have h2 : dd [(pieceF z y b).1, (pieceF z y b).2.1] = dput (dput [] (pieceF z y b).1) y := by rw [hQ]; rfl
          have := dput_pair (g := []) he
          dsimp only at hlt
          rw [h2] at hlt
          omega

theorem ptOf_get {l : List Pt} {i : Nat} {p : Pt} (h : l[i]? = some p) : ptOf l i = p := by
  unfold ptOf
  rw [List.getD_eq_getElem?_getD, h]
  rfl
theorem take_pairs {l : List Pt} {m : Nat} (hm : m + 1 < l.length) : pairs (l.take (m + 2)) = pairs (l.take (m + 1)) ++ [(ptOf l m, ptOf l (m + 1))] := by
  have h1 : l[m]? = some (ptOf l m) := by rw [List.getElem?_eq_getElem (by omega)]; unfold ptOf; rw [List.getD_eq_getElem?_getD, List.getElem?_eq_getElem (by omega)]; rfl
  have h2 : l[m + 1]? = some (ptOf l (m + 1)) := by rw [List.getElem?_eq_getElem hm]; unfold ptOf; rw [List.getD_eq_getElem?_getD, List.getElem?_eq_getElem hm]; rfl
  have e1 : l.take (m + 1) = l.take m ++ [ptOf l m] := by rw [List.take_add_one, h1]; rfl
  have e2 : l.take (m + 2) = l.take m ++ [ptOf l m] ++ [ptOf l (m + 1)] := by rw [List.take_add_one, h2, e1]; rfl
  rw [e2, pairs_snoc, e1]
theorem corn_line {b : Bx} (hb : BoxUp b) {l : List Pt} (hn : Nb l) : ∀ m, m < l.length → Corn b l m (lineS b (pairs (l.take (m + 1))))
  | 0, h => by
    have e : pairs (l.take 1) = [] := by
      match l with
      | [] => rfl
      | p :: t => rfl
    rw [e]
    exact Corn.start b l
  | m + 1, h => by
    rw [take_pairs h]
    unfold lineS
    rw [List.foldl_append]
    refine Corn.step hb h ?_ (corn_line hb hn m (by omega))
    intro he
    have h2 : l[m + 1]? = some (ptOf l (m + 1)) := by rw [List.getElem?_eq_getElem h]; unfold ptOf; rw [List.getD_eq_getElem?_getD, List.getElem?_eq_getElem h]; rfl
    have h1 : l[m]? = some (ptOf l m) := by rw [List.getElem?_eq_getElem (by omega)]; unfold ptOf; rw [List.getD_eq_getElem?_getD, List.getElem?_eq_getElem (by omega)]; rfl
    exact hn (m + 1) _ h2 (by omega) (by rw [Nat.add_sub_cancel, h1, he])
/-- All corners occur in the parts in order. -/
theorem corners_in {b : Bx} {l : List Pt} (hp : propB l b = true) (hn : Nb l) : List.Sublist (cornFrom b l 0) (lineF l b).flatten := by
  have hb : BoxUp b := boxB_up (propB_box hp).1
  rw [cornFrom_zero]
  unfold lineF
  rw [if_pos hp]
  cases hl : l with
  | nil => exact List.nil_sublist _
  | cons p t =>
    rw [← hl]
    obtain ⟨m, hm⟩ : ∃ m, l.length = m + 1 := ⟨t.length, by rw [hl]; rfl⟩
    have h := corn_line hb hn m (by omega)
    rw [← hm, List.take_length] at h
    obtain ⟨⟨A, C, hAC, hA, hC, hC2, hG⟩, hf, hz⟩ := h
    rw [flush_flat, hm, cornTo_succ, hAC, List.append_assoc]
    refine List.Sublist.append hA ?_
    have hal : aloneB b l m = (decide (m = 0) || ptEqB (rPiece (ptOf l (m - 1)) (ptOf l m) b).1 (ptOf l m)) := by
      unfold aloneB
      rw [decide_eq_true (show l.length ≤ m + 1 by omega)]
      simp
    by_cases hin : inB (ptOf l m) b = true
    · by_cases hm0 : m = 0
      · have ha : aloneB b l m = true := by rw [hal, decide_eq_true hm0]; rfl
        have hc : corn b l m = [] := by unfold corn; rw [ha]; simp
        rw [hc, List.append_nil]
        have hs := hz hm0
        rw [hs] at hC ⊢
        rw [List.eq_nil_of_sublist_nil hC]
        exact List.nil_sublist _
      · obtain ⟨G, hGe, hCG⟩ := hG hin (by omega)
        by_cases h2 : 2 ≤ (dd (lineS b (pairs l)).1).length
        · rw [if_pos h2]
          have hCz : List.Sublist (C ++ [ptOf l m]) (dd (lineS b (pairs l)).1) := by rw [hGe]; exact List.Sublist.append hCG (List.Sublist.refl _)
          unfold corn
          split
          · exact hCz
          · rw [List.append_nil]; exact hC
        · rw [if_neg h2]
          have hc0 : C = [] := by
            cases hc : C with
            | nil => rfl
            | cons a t => exact absurd (hC2 (by rw [hc]; simp)) h2
          have ha : aloneB b l m = true := by rw [hal, hf hin (by omega) (by omega), ptEq_refl]; simp
          have hc : corn b l m = [] := by unfold corn; rw [ha]; simp
          rw [hc0, hc]
          exact List.nil_sublist _
    · have hc : corn b l m = [] := by unfold corn; rw [Bool.not_eq_true _ |>.mp hin]; rfl
      rw [hc, List.append_nil]
      split
      · exact hC
      · rename_i h2
        cases hc : C with
        | nil => exact List.nil_sublist _
        | cons a t => exact absurd (hC2 (by rw [hc]; simp)) h2
/-- Without equal neighbours. -/
theorem nb_of_len {l : List Pt} (h : (dd l).length = l.length) : Nb l := by
  revert h
  refine snoc_ind (p := fun l => (dd l).length = l.length → Nb l) (fun _ k p hk => by simp at hk) (fun l x ih h => ?_) l
  rw [dd_snoc] at h
  unfold dput at h
  have hle := dd_len_le l
  split at h
  · rw [List.length_append, List.length_singleton] at h; omega
  · rename_i hne
    rw [List.length_append, List.length_append, List.length_singleton] at h
    have hl : (dd l).length = l.length := by omega
    have hnb := ih hl
    intro k p hk h0 h1
    by_cases hkl : k < l.length
    · rw [List.getElem?_append_left hkl] at hk
      rw [List.getElem?_append_left (by omega)] at h1
      exact hnb k p hk h0 h1
    · have hke : k = l.length := by
        have := (List.getElem?_eq_some_iff.1 hk).1
        simp at this
        omega
      subst hke
      rw [List.getElem?_append_right (Nat.le_refl _)] at hk
      simp at hk
      subst hk
      rw [List.getElem?_append_left (by omega)] at h1
      apply hne
      rw [dd_last, List.getLast?_eq_getElem?]
      exact h1
end Go.Proofs.Ytadiajlegajclaa
