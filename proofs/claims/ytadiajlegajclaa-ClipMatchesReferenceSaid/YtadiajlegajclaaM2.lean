/- Lists of points without equal neighbours. No program is named. -/
import Derived.Test.YtadiajlegajclaaM1
namespace Go.Proofs.Ytadiajlegajclaa

/-- x behind acc, unless acc ends with it. -/
def dput (acc : List Pt) (x : Pt) : List Pt := if acc.getLast? = some x then acc else acc ++ [x]
/-- A list without neighbours that are equal. -/
def dd (l : List Pt) : List Pt := l.foldl dput []

theorem dd_nil : dd [] = [] := rfl
theorem dd_snoc (l : List Pt) (x : Pt) : dd (l ++ [x]) = dput (dd l) x := by simp [dd, List.foldl_append]
theorem dput_last (acc : List Pt) (x : Pt) : (dput acc x).getLast? = some x := by
  unfold dput
  split
  · assumption
  · simp
theorem snoc_ind {α : Type} {p : List α → Prop} (h0 : p []) (h1 : ∀ l x, p l → p (l ++ [x])) : ∀ l, p l := by
  intro l
  have h : ∀ n (l : List α), l.length = n → p l := by
    intro n
    induction n with
    | zero => intro l hl; rw [List.eq_nil_of_length_eq_zero hl]; exact h0
    | succ n ih =>
      intro l hl
      have hne : l ≠ [] := by intro e; subst e; simp at hl
      rw [← List.dropLast_concat_getLast hne]
      exact h1 _ _ (ih _ (by simp; omega))
  exact h _ l rfl
theorem dd_last (l : List Pt) : (dd l).getLast? = l.getLast? := by
  refine snoc_ind (p := fun l => (dd l).getLast? = l.getLast?) rfl (fun l x _ => ?_) l
  rw [dd_snoc, dput_last]; simp
theorem dd_take_succ {l : List Pt} {k : Nat} {x : Pt} (h : l[k]? = some x) : dd (l.take (k + 1)) = if 0 < k ∧ l[k - 1]? = some x then dd (l.take k) else dd (l.take k) ++ [x] := by
  have hlt : k < l.length := (List.getElem?_eq_some_iff.1 h).1
  rw [List.take_add_one, h]
  show dd (l.take k ++ [x]) = _
  rw [dd_snoc, dput, dd_last]
  have e : (l.take k).getLast? = some x ↔ 0 < k ∧ l[k - 1]? = some x := by
    rw [List.getLast?_eq_getElem?, List.length_take, Nat.min_eq_left (by omega)]
    by_cases hk : 0 < k
    · rw [List.getElem?_take_of_lt (by omega)]; simp [hk]
    · have : k = 0 := by omega
      subst this; simp
  by_cases hc : 0 < k ∧ l[k - 1]? = some x
  · rw [if_pos hc, if_pos (e.2 hc)]
  · rw [if_neg hc, if_neg (fun h' => hc (e.1 h'))]
theorem dd_len_le (l : List Pt) : (dd l).length ≤ l.length := by
  refine snoc_ind (p := fun l => (dd l).length ≤ l.length) (Nat.le_refl _) (fun l x ih => ?_) l
  rw [dd_snoc, dput]
  split
  · simp; omega
  · simp; exact ih
theorem dd_short {l : List Pt} (h : l.length < 2) : dd l = l := by
  match l with
  | [] => rfl
  | [x] => rfl
  | x :: y :: t => simp at h; omega

end Go.Proofs.Ytadiajlegajclaa
