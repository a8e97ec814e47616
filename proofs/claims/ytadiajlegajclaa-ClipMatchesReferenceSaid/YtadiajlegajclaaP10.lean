/- The reference's Line groups as the program's does. No program is named. -/
import Derived.Test.YtadiajlegajclaaP9
set_option linter.unusedSimpArgs false
set_option linter.unusedVariables false
namespace Go.Proofs.Ytadiajlegajclaa

/-- What pair i makes of the groups. -/
def rawStep (b : Bx) (i : Nat) (ls : List (List Pt)) (p q : Pt) : List (List Pt) :=
  if (rPiece p q b).2.2 then
    (if 1 < i ∧ inB p b = true then ls.dropLast ++ [ls.getLastD [] ++ [(rPiece p q b).1, (rPiece p q b).2.1]] else ls ++ [[(rPiece p q b).1, (rPiece p q b).2.1]])
  else ls
def rawTo (b : Bx) (l : List Pt) : Nat → List (List Pt)
  | 0 => []
  | k + 1 => rawStep b (k + 1) (rawTo b l k) (ptOf l k) (ptOf l (k + 1))
theorem longs_append (gs hs : List (List Pt)) : longs (gs ++ hs) = longs gs ++ longs hs := by
  unfold longs
  rw [List.map_append, List.filter_append]
theorem longs_nil1 : longs [[]] = [] := rfl

structure RawRel (b : Bx) (l : List Pt) (k : Nat) (s : List Pt × List (List Pt)) : Prop where
  same : longs (rawTo b l k) = s.2 ++ longs [s.1]
  last : s.1 ≠ [] → ∃ ls, rawTo b l k = ls ++ [s.1] ∧ longs ls = s.2
  goes : 0 < k → inB (ptOf l k) b = true → s.1 ≠ []
theorem RawRel.step {b : Bx} (hb : BoxUp b) {l : List Pt} {k : Nat} {s : List Pt × List (List Pt)} (h : RawRel b l k s) (h0 : k = 0 → s = ([], [])) : RawRel b l (k + 1) (lineStep b s (ptOf l k, ptOf l (k + 1))) := by
  obtain ⟨h1, h2, h3⟩ := h
  obtain ⟨p, hp⟩ : ∃ p, p = ptOf l k := ⟨_, rfl⟩
  obtain ⟨q, hq⟩ : ∃ q, q = ptOf l (k + 1) := ⟨_, rfl⟩
  have hr : rawTo b l (k + 1) = rawStep b (k + 1) (rawTo b l k) p q := by rw [hp, hq]; rfl
  rw [← hp] at h3 ⊢
  rw [← hq]
  obtain ⟨ok, e⟩ := rPiece_same (p := p) (q := q) hb
  unfold lineStep
  dsimp only
  cases hin : inB p b with
  | true =>
    have hk := (piece_from (q := q) hb hin).1
    rw [if_pos (rfl : true = true), if_pos hk]
    have e' := e (ok.trans hk)
    have hr' : rawTo b l (k + 1) = if 1 < k + 1 then (rawTo b l k).dropLast ++ [(rawTo b l k).getLastD [] ++ [(pieceF p q b).1, (pieceF p q b).2.1]] else rawTo b l k ++ [[(pieceF p q b).1, (pieceF p q b).2.1]] := by
      rw [hr]
      unfold rawStep
      rw [e', if_pos hk, hin]
      simp only [and_true]
    by_cases hk0 : k = 0
    · have hs := h0 hk0
      subst hk0
      rw [if_neg (by decide)] at hr'
      have hr2 : rawTo b l (0 + 1) = [[(pieceF p q b).1, (pieceF p q b).2.1]] := hr'
      rw [hs]
      refine ⟨by rw [hr2]; rfl, fun _ => ⟨[], by rw [hr2]; rfl, rfl⟩, fun _ _ => by simp⟩
    · have hne := h3 (by omega) hin
      obtain ⟨ls, hl1, hl2⟩ := h2 hne
      rw [if_pos (by omega), hl1] at hr'
      have hr2 : rawTo b l (k + 1) = ls ++ [s.1 ++ [(pieceF p q b).1, (pieceF p q b).2.1]] := by
        rw [hr', List.dropLast_concat]
        congr 2
        simp [List.getLastD_eq_getLast?]
      refine ⟨by rw [hr2, longs_append, hl2], fun _ => ⟨ls, hr2, hl2⟩, fun _ _ => by simp⟩
  | false =>
    rw [if_neg (show ¬ (false = true) by decide)]
    have hfl := flush_longs s
    cases hk : (pieceF p q b).2.2 with
    | true =>
      rw [if_pos (rfl : true = true)]
      have e' := e (ok.trans hk)
      have hr2 : rawTo b l (k + 1) = rawTo b l k ++ [[(pieceF p q b).1, (pieceF p q b).2.1]] := by
        rw [hr]
        unfold rawStep
        rw [e', if_pos hk, hin, if_neg (by simp)]
      show RawRel b l (k + 1) ((flush s).1 ++ [(pieceF p q b).1, (pieceF p q b).2.1], (flush s).2)
      have hf1 : (flush s).1 = [] := rfl
      rw [hf1, List.nil_append]
      exact ⟨by rw [hr2, longs_append, h1, hfl], fun _ => ⟨rawTo b l k, hr2, by rw [h1, hfl]⟩, fun _ _ => by simp⟩
    | false =>
      rw [if_neg (show ¬ (false = true) by decide)]
      have hr2 : rawTo b l (k + 1) = rawTo b l k := by
        rw [hr]
        unfold rawStep
        rw [if_neg (by rw [ok, hk]; decide)]
      refine ⟨by rw [hr2, h1, hfl]; show _ = _ ++ longs [[]]; rw [longs_nil1, List.append_nil], fun h => absurd rfl h, fun _ hi => ?_⟩
      rw [← hq] at hi
      rw [(piece_to (p := p) hb hi).1] at hk
      cases hk
theorem raw_rel {b : Bx} (hb : BoxUp b) {l : List Pt} : ∀ k, k < l.length → RawRel b l k (lineS b (pairs (l.take (k + 1))))
  | 0, h => by
    have e : pairs (l.take 1) = [] := by
      match l with
      | [] => rfl
      | p :: t => rfl
    rw [e]
    exact ⟨rfl, fun h => absurd rfl h, fun h => absurd h (by decide)⟩
  | k + 1, h => by
    rw [take_pairs h]
    unfold lineS
    rw [List.foldl_append]
    refine RawRel.step hb (raw_rel hb k (by omega)) (fun h0 => ?_)
    subst h0
    have e : pairs (l.take (0 + 1)) = [] := by
      match l with
      | [] => rfl
      | p :: t => rfl
    rw [e]
    rfl
/-- The reference's line. -/
theorem rline_eq {b : Bx} {l : List Pt} (hp : propB l b = true) : longs (rawTo b l (l.length - 1)) = lineF l b := by
  have hb : BoxUp b := boxB_up (propB_box hp).1
  unfold lineF
  rw [if_pos hp, flush_longs]
  cases hl : l with
  | nil => rfl
  | cons p t =>
    rw [← hl]
    obtain ⟨m, hm⟩ : ∃ m, l.length = m + 1 := ⟨t.length, by rw [hl]; rfl⟩
    have h := (raw_rel hb m (by omega : m < l.length)).same
    rw [← hm, List.take_length] at h
    rw [hm, Nat.add_sub_cancel]
    exact h
/-- Each group was begun by a pair, and has an even number of points, at most two for each pair. -/
theorem rawTo_len (b : Bx) (l : List Pt) : ∀ k, (rawTo b l k).length ≤ k
  | 0 => Nat.le_refl _
  | k + 1 => by
    have h := rawTo_len b l k
    unfold rawTo rawStep
    split
    · split
      · rw [List.length_append, List.length_dropLast, List.length_singleton]
        omega
      · rw [List.length_append, List.length_singleton]
        omega
    · omega
theorem rawTo_each (b : Bx) (l : List Pt) : ∀ k, ∀ x ∈ rawTo b l k, x.length ≤ 2 * k
  | 0, x, hx => by simp [rawTo] at hx
  | k + 1, x, hx => by
    have h := rawTo_each b l k
    unfold rawTo rawStep at hx
    split at hx
    · split at hx
      · rcases List.mem_append.1 hx with hx | hx
        · have := h x (List.dropLast_subset _ hx); omega
        · simp only [List.mem_singleton] at hx
          subst hx
          rw [List.length_append]
          have hg : ((rawTo b l k).getLastD []).length ≤ 2 * k := by
            cases hl : (rawTo b l k).getLast? with
            | none => rw [List.getLastD_eq_getLast?, hl]; simp
            | some y =>
              rw [List.getLastD_eq_getLast?, hl]
              exact h y (List.mem_of_getLast? hl)
          simp only [List.length_cons, List.length_nil]
          omega
      · rcases List.mem_append.1 hx with hx | hx
        · have := h x hx; omega
        · simp only [List.mem_singleton] at hx
          subst hx
          simp only [List.length_cons, List.length_nil]
          omega
    · have := h x hx; omega
/-- Where the line goes on inside there is a group. -/
theorem rawTo_ne {b : Bx} (hb : BoxUp b) {l : List Pt} {k : Nat} (hk : k < l.length) (h0 : 0 < k) (hi : inB (ptOf l k) b = true) : rawTo b l k ≠ [] := by
  have h := raw_rel hb k hk
  obtain ⟨ls, hl, _⟩ := h.last (h.goes h0 hi)
  rw [hl]
  simp
end Go.Proofs.Ytadiajlegajclaa
