/- Plain laws on sectors: what settling and tearing do to each sector; the writes that succeed. -/
import Derived.Test.YtbioeeccbcaljaaC3
set_option linter.unusedVariables false
set_option linter.unusedSimpArgs false
namespace Go.Proofs.Ytbioeeccbcaljaa
open Go.RowKit

/-- The bytes of a sector. -/
def secL (st : List UInt8) (i : Nat) : List UInt8 := (st.drop (i * 64)).take 64
theorem secL_get (st : List UInt8) (i j : Nat) : (secL st i)[j]? = if j < 64 then st[i * 64 + j]? else none := by
  unfold secL
  rw [List.getElem?_take]
  split
  · rw [List.getElem?_drop]
  · rfl
theorem splice_get {L cs : List UInt8} {off : Nat} (h : off + cs.length ≤ L.length) (k : Nat) : (splice L off cs)[k]? = if k < off then L[k]? else if k < off + cs.length then cs[k - off]? else L[k]? := by
  unfold splice
  have hl : (L.take off).length = off := by rw [List.length_take]; omega
  by_cases h1 : k < off
  · rw [if_pos h1, List.getElem?_append_left (by omega), List.getElem?_take_of_lt h1]
  · rw [if_neg h1, List.getElem?_append_right (by omega), hl]
    by_cases h2 : k < off + cs.length
    · rw [if_pos h2, List.getElem?_append_left (by omega)]
    · rw [if_neg h2, List.getElem?_append_right (by omega), List.getElem?_drop]
      congr 1; omega

theorem secL_splice {st cs : List UInt8} {b : Nat} (i : Nat) (hc : cs.length ≤ 64) (h : b * 64 + 64 ≤ st.length) : secL (splice st (b * 64) cs) i = if b = i then cs ++ (secL st i).drop cs.length else secL st i := by
  apply List.ext_getElem?
  intro j
  rw [secL_get, splice_get (by omega)]
  by_cases e : b = i
  · subst e
    rw [if_pos rfl, List.getElem?_append]
    by_cases hj : j < 64
    · rw [if_pos hj, if_neg (by omega)]
      by_cases hj2 : j < cs.length
      · rw [if_pos (by omega), if_pos hj2]; congr 1; omega
      · rw [if_neg (by omega), if_neg hj2, List.getElem?_drop, secL_get, if_pos (by omega)]; congr 1; omega
    · rw [if_neg hj, if_neg (by omega), List.getElem?_drop, secL_get, if_neg (by omega)]
  · rw [if_neg e, secL_get]
    by_cases hj : j < 64
    · rw [if_pos hj, if_pos hj]
      by_cases h1 : i * 64 + j < b * 64
      · rw [if_pos h1]
      · rw [if_neg h1, if_neg (by omega)]
    · rw [if_neg hj, if_neg hj]

def QOk (n : Nat) (q : List (Nat × ByteArray)) : Prop := ∀ p ∈ q, p.1 < n ∧ p.2.size = 64
theorem QOk.take {n : Nat} {q : List (Nat × ByteArray)} (h : QOk n q) (k : Nat) : QOk n (q.take k) := fun p hp => h p (List.mem_of_mem_take hp)
def secB (st : List UInt8) (i : Nat) : ByteArray := ⟨(secL st i).toArray⟩
theorem put1_len {n : Nat} {st : List UInt8} {p : Nat × ByteArray} (hl : st.length = n * 64) (hp : p.1 < n ∧ p.2.size = 64) : (put1 st p).length = n * 64 := by
  rw [put1_length _ _ (by rw [hl, hp.2]; omega), hl]
theorem secL_put1 {n : Nat} {st : List UInt8} {p : Nat × ByteArray} (i : Nat) (hl : st.length = n * 64) (hp : p.1 < n ∧ p.2.size = 64) (hi : i < n) : secL (put1 st p) i = if p.1 = i then bts p.2 else secL st i := by
  unfold put1
  have hb : (bts p.2).length = 64 := hp.2
  rw [secL_splice i (by omega) (by rw [hl]; omega)]
  split
  · rw [List.drop_of_length_le (by rw [hb]; unfold secL; rw [List.length_take]; omega), List.append_nil]
  · rfl
theorem secB_settle {n i : Nat} (hi : i < n) : ∀ (q : List (Nat × ByteArray)) (st : List UInt8), st.length = n * 64 → QOk n q → secB (settleL st q) i = readQ (secB st i) q i ∧ (settleL st q).length = n * 64
  | [], st, hl, _ => ⟨rfl, hl⟩
  | p :: q, st, hl, hq => by
    have hp := hq p (by simp)
    obtain ⟨h1, h2⟩ := secB_settle hi q (put1 st p) (put1_len hl hp) (fun p' hp' => hq p' (by simp [hp']))
    refine ⟨?_, h2⟩
    show secB (settleL (put1 st p) q) i = readQ (if p.1 = i then p.2 else secB st i) q i
    rw [h1]
    congr 1
    unfold secB
    rw [secL_put1 i hl hp hi]
    split
    · rfl
    · rfl
theorem readQ_none {s : ByteArray} {i : Nat} : ∀ {q : List (Nat × ByteArray)}, (∀ p ∈ q, p.1 ≠ i) → readQ s q i = s
  | [], _ => rfl
  | p :: q, h => by
    show readQ (if p.1 = i then p.2 else s) q i = s
    rw [if_neg (h p (by simp))]
    exact readQ_none (fun p' hp => h p' (by simp [hp]))

/-- What a failure leaves in each sector: the first writes, and the first bytes of the next one. -/
theorem secB_cut {n i c b : Nat} {q : List (Nat × ByteArray)} {st : List UInt8} (hi : i < n) (hl : st.length = n * 64) (hq : QOk n q) (hb : b ≤ 64) :
    secL (tornSt (settleL st (q.take c)) q c b) i = match q[c]? with
      | some p => if p.1 = i then (bts p.2).take b ++ (bts (readQ (secB st i) (q.take c) i)).drop b else bts (readQ (secB st i) (q.take c) i)
      | none => bts (readQ (secB st i) (q.take c) i) := by
  obtain ⟨h1, h2⟩ := secB_settle hi (q.take c) st hl (hq.take c)
  have h1' : secL (settleL st (q.take c)) i = bts (readQ (secB st i) (q.take c) i) := by rw [← h1]; rfl
  unfold tornSt
  cases hc : q[c]? with
  | none => exact h1'
  | some p =>
    have hp := hq p (List.mem_of_getElem? hc)
    have hpl : (bts p.2).length = 64 := hp.2
    simp only
    by_cases hb0 : 0 < b
    · rw [if_pos hb0, secL_splice i (by rw [List.length_take]; omega) (by rw [h2]; omega), h1']
      split
      · rw [List.length_take, Nat.min_eq_left (by omega)]
      · rfl
    · have : b = 0 := by omega
      subst this
      rw [if_neg hb0, h1']
      simp

/-! ### The writes that succeed -/
def goodW (n : Nat) (a : Ac) : Prop := 0 ≤ a.sector ∧ a.sector < n ∧ a.txt.size = 64
instance (n : Nat) (a : Ac) : Decidable (goodW n a) := by unfold goodW; infer_instance
def pushes (n : Nat) (l : List Ac) : List (Nat × ByteArray) := (l.filter (fun a => decide (goodW n a))).map (fun a => (a.sector.toNat, a.txt))
theorem pushes_ok (n : Nat) (l : List Ac) : QOk n (pushes n l) := by
  intro p hp
  obtain ⟨a, ha, rfl⟩ := List.mem_map.1 hp
  have hg : goodW n a := by simpa using (List.mem_filter.1 ha).2
  have h1 := hg.1
  have h2 := hg.2.1
  exact ⟨by show a.sector.toNat < n; omega, hg.2.2⟩
theorem pushes_snoc (n : Nat) (l : List Ac) (k : Nat) (a : Ac) (h : l[k]? = some a) : pushes n (l.take (k + 1)) = pushes n (l.take k) ++ (if goodW n a then [(a.sector.toNat, a.txt)] else []) := by
  rw [List.take_add_one, h]
  unfold pushes
  rw [List.filter_append, List.map_append]
  congr 1
  by_cases hg : goodW n a
  · simp [hg]
  · simp [hg]
theorem pushes_len (n : Nat) (l : List Ac) : (pushes n l).length ≤ l.length := by
  unfold pushes
  rw [List.length_map]
  exact List.length_filter_le _ _
/-- The disk behind these writes. -/
def DK.more (A : DK) (q : List (Nat × ByteArray)) : DK := { A with q := A.q ++ q }
theorem DK.Idle.more {A : DK} (h : A.Idle) (q : List (Nat × ByteArray)) : (A.more q).Idle := ⟨h.on, h.calm⟩
theorem DK.more_nil (A : DK) : A.more [] = A := by simp [DK.more]
theorem DK.more_write {A : DK} (h : A.Idle) (q : List (Nat × ByteArray)) (a : Ac) :
    (A.more q).write a.sector a.txt = if goodW A.n a then (0, A.more (q ++ [(a.sector.toNat, a.txt)])) else (1, A.more q) := by
  rw [(h.more q).write]
  have e : (A.more q).n = A.n := rfl
  rw [e]
  by_cases hg : goodW A.n a
  · rw [if_pos hg]
    unfold goodW at hg
    rw [if_pos hg]
    simp [DK.more, DK.push]
  · rw [if_neg hg]
    unfold goodW at hg
    rw [if_neg hg]

def marks (n : Nat) (q : List (Nat × ByteArray)) : List Value := (List.range n).map fun i => .bool (decide (∃ p ∈ q, p.1 = i))
theorem marks_nil (n : Nat) : marks n [] = List.replicate n (.bool false) := by
  apply List.ext_getElem?
  intro i
  unfold marks
  by_cases hi : i < n
  · simp [hi]
  · simp [hi]
theorem marks_len (n : Nat) (q : List (Nat × ByteArray)) : (marks n q).length = n := by simp [marks]
theorem marks_push (n : Nat) (q : List (Nat × ByteArray)) (i : Nat) (t : ByteArray) : marks n (q ++ [(i, t)]) = (marks n q).set i (.bool true) := by
  apply List.ext_getElem?
  intro j
  rw [List.getElem?_set, marks_len]
  by_cases hj : j < n
  · by_cases e : i = j
    · subst e
      rw [if_pos rfl, if_pos hj]
      unfold marks
      simp [hj]
    · rw [if_neg e]
      unfold marks
      simp only [List.getElem?_map, List.getElem?_range hj, Option.map_some]
      congr 2
      simp [e]
  · rw [List.getElem?_eq_none (by rw [marks_len]; omega)]
    by_cases e : i = j
    · rw [if_pos e, if_neg (by omega)]
    · rw [if_neg e, List.getElem?_eq_none (by rw [marks_len]; omega)]

theorem clampN_le (x : Int) (t : Nat) : clampN x t ≤ t := Nat.min_le_right _ _
/-- The disk that fails behind these writes, and starts. -/
theorem DK.cut_text {V : DK} (h : V.Idle) (hq : V.q = []) (hl : V.st.length = V.n * 64) {q : List (Nat × ByteArray)} (ho : QOk V.n q) (x y : Int) {i : Nat} (hi : i < V.n) :
    bts (((V.more q).cut x y).start.textAt i) = match q[clampN x q.length]? with
      | some p => if p.1 = i then (bts p.2).take (clampN y 64) ++ (bts ((V.more (q.take (clampN x q.length))).textAt i)).drop (clampN y 64) else bts ((V.more (q.take (clampN x q.length))).textAt i)
      | none => bts ((V.more (q.take (clampN x q.length))).textAt i) := by
  have e0 : (V.more q).q = q := by simp [DK.more, hq]
  have e1 : ((V.more q).cut x y).start.textAt i = ⟨(secL (tornSt (settleL V.st (q.take (clampN x q.length))) q (clampN x q.length) (clampN y 64)) i).toArray⟩ := by
    rw [DK.sec_quiet]
    · unfold DK.cut
      rw [if_neg (by rw [(h.more q).on]; simp), e0]
      rfl
    · unfold DK.cut
      rw [if_neg (by rw [(h.more q).on]; simp)]
      rfl
  have e2 : ∀ q', (V.more q').textAt i = readQ (secB V.st i) q' i := fun q' => by
    unfold DK.textAt
    simp only [DK.more, hq, List.nil_append]
    rfl
  rw [e1, e2]
  have := secB_cut (c := clampN x q.length) (b := clampN y 64) hi hl ho (clampN_le _ _)
  rw [← this]

/-- A sector that was not written keeps its contents over a failure. -/
theorem DK.cut_kept {V : DK} (h : V.Idle) (hq : V.q = []) (hl : V.st.length = V.n * 64) {q : List (Nat × ByteArray)} (ho : QOk V.n q) (x y : Int) {i : Nat} (hi : i < V.n) (hn : ∀ p ∈ q, p.1 ≠ i) :
    ((V.more q).cut x y).start.textAt i = V.textAt i := by
  have hc := DK.cut_text h hq hl ho x y hi
  have e2 : (V.more (q.take (clampN x q.length))).textAt i = V.textAt i := by
    have e2 : ∀ q', (V.more q').textAt i = readQ (secB V.st i) q' i := fun q' => by
      unfold DK.textAt
      simp only [DK.more, hq, List.nil_append]
      rfl
    rw [e2, readQ_none (fun p hp => hn p (List.mem_of_mem_take hp)), DK.sec_quiet _ hq]
    rfl
  rw [e2] at hc
  apply ba_ext
  show bts _ = bts _
  rw [hc]
  split
  · rename_i p hp
    rw [if_neg (hn p (List.mem_of_getElem? hp))]
  · rfl
end Go.Proofs.Ytbioeeccbcaljaa
