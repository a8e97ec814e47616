/- Lemmas for the laws on one disk. -/
import Derived.Test.YtbioeeccbcaljaaC2
import Derived.Deep.RegionHeld3
set_option linter.unusedVariables false
set_option linter.unusedSimpArgs false
namespace Go.Proofs.Ytbioeeccbcaljaa
open Go.RowKit

theorem acts_one {w : World} {g : Nat} {a : Ac} (h : Bk w g 34 a.cells) : ActsAt w (g + 1) (some ⟨g, 0, none⟩) [a] := by
  intro k x hk
  match k, hk with
  | 0, hk =>
    simp at hk
    subst hk
    exact ⟨g, 0, rfl, Nat.lt_succ_self _, fun j u hu => by rw [← hu]; simpa using h.cell j⟩

/-- The cells of an act that came by value, in a later world. -/
theorem xfacts {w0 W : World} {gx : Nat} {x : Ac} (hm : Mod (From w0.heap.size) w0 W) (hb : Bk w0 gx 34 x.cells) (hl : gx < w0.heap.size) :
    W.cell? ⟨gx, 0, none⟩ = some (.int .i64 x.kind) ∧ W.cell? ⟨gx, 1, none⟩ = some (.int .i64 x.sector) ∧ W.cell? ⟨gx, 2, none⟩ = some (.int .i64 x.bytes) ∧ W.cell? ⟨gx, 3, none⟩ = some (.string x.text) ∧
      W.cell? ⟨gx, 4, none⟩ = some (.bool x.odd) ∧ W.cell? ⟨gx, 5, none⟩ = some (.int .i64 x.after) :=
  have h := hm.bk hb (Nat.not_le.2 hl)
  ⟨h.cell 0, h.cell 1, h.cell 2, h.cell 3, h.cell 4, h.cell 5⟩

theorem rawE' {w : World} {d : Nat} {S : Nat → Prop} {A : DK} (h : DiskS w d S A) (t : ByteArray) (e : (⟨A.st.toArray⟩ : ByteArray) = t) : Calls Try.prog 31 #[ptr d] w fun e w' => e = .returned (.string t) ∧ w' = w := by
  rw [← e]; exact rawS h

theorem okB_one (a : Ac) : okB [a] = decide (a.text.size ≤ 100) := by simp [okB]

/-- The row of texts that a contents call has made. -/
theorem strs_low {w : World} {B : Nat} {v : Value} {l : List ByteArray} (h : StrsAt w B v l) {k : Nat} (hk : v.ownBlock = some k) : B ≤ k ∧ k < w.heap.size := ⟨own_ge h hk, own_lt h hk⟩
theorem strs_mod {S : Nat → Prop} {w w' : World} {B : Nat} {v : Value} {l : List ByteArray} (h : StrsAt w B v l) (hm : Mod S w w') (hS : ∀ k, v.ownBlock = some k → ¬ S k) : StrsAt w' B v l :=
  own_keep h fun k hk => hm.block k (own_lt h hk) (hS k hk)

/-- A disk that is on, and not armed. -/
structure DK.Idle (A : DK) : Prop where
  on : A.off = false
  calm : A.arm = none

theorem DK.start_idle (A : DK) : A.start.Idle := ⟨rfl, rfl⟩
theorem DK.Idle.count {A : DK} (h : A.Idle) : A.count = (0, A) := by unfold DK.count; rw [h.calm]
theorem DK.Idle.sync {A : DK} (h : A.Idle) : A.sync = (0, { A with st := settleL A.st A.q, q := [] }) := by
  unfold DK.sync; rw [if_neg (by rw [h.on]; simp), h.count]; rfl
theorem DK.Idle.synced {A : DK} (h : A.Idle) : DK.Idle { A with st := settleL A.st A.q, q := [] } := ⟨h.on, h.calm⟩
theorem DK.Idle.push {A : DK} (h : A.Idle) (i : Nat) (t : ByteArray) : (A.push i t).Idle := ⟨h.on, h.calm⟩
theorem DK.Idle.write {A : DK} (h : A.Idle) (s : Int) (t : ByteArray) :
    A.write s t = if 0 ≤ s ∧ s < A.n ∧ t.size = 64 then (0, A.push s.toNat t) else (1, A) := by
  unfold DK.write
  rw [h.on, if_neg (by simp)]
  by_cases hs : 0 ≤ s ∧ s < A.n
  · rw [if_pos hs]
    by_cases ht : t.size = 64
    · rw [if_pos ht, (h.push _ _).count, if_pos ⟨hs.1, hs.2, ht⟩]
    · rw [if_neg ht, if_neg (fun e => ht e.2.2)]
  · rw [if_neg hs, if_neg (fun e => hs ⟨e.1, e.2.1⟩)]
theorem DK.Idle.written {A : DK} (h : A.Idle) (s : Int) (t : ByteArray) : (A.write s t).2.Idle ∧ (A.write s t).2.st = A.st := by
  rw [h.write]; split
  · exact ⟨h.push _ _, rfl⟩
  · exact ⟨h, rfl⟩

/-- All sectors, one after the other, are the stable bytes. -/
theorem secs_all (st : List UInt8) : ∀ n, st.length = n * 64 → (List.range n).flatMap (fun i => (st.drop (i * 64)).take 64) = st := by
  have key : ∀ n, n * 64 ≤ st.length → (List.range n).flatMap (fun i => (st.drop (i * 64)).take 64) = st.take (n * 64) := by
    intro n
    induction n with
    | zero => simp
    | succ n ih =>
      intro h
      rw [List.range_succ, List.flatMap_append, ih (by omega)]
      simp only [List.flatMap_cons, List.flatMap_nil, List.append_nil]
      rw [show (n + 1) * 64 = n * 64 + 64 by omega, List.take_add]
  intro n h
  rw [key n (by omega), List.take_of_length_le (by omega)]

theorem DK.sec_quiet (A : DK) (h : A.q = []) (i : Nat) : A.textAt i = A.sec i := by
  unfold DK.textAt; rw [h]; rfl

theorem DK.push_textAt (A : DK) (i j : Nat) (t : ByteArray) : (A.push i t).textAt j = if i = j then t else A.textAt j := by
  simp [DK.textAt, DK.push, readQ, DK.sec]
theorem DK.push_texts (A : DK) (i : Nat) (t : ByteArray) (hi : i < A.n) : (A.push i t).texts = A.texts.set i t := by
  apply List.ext_getElem?
  intro j
  by_cases hj : j < A.n
  · have h1 : (A.push i t).n = A.n := rfl
    rw [List.getElem?_set]
    simp only [DK.texts, h1, List.getElem?_map, List.getElem?_range hj, Option.map_some, List.length_map, List.length_range, A.push_textAt i j t]
    by_cases e : i = j
    · subst e; simp [hi]
    · simp [e]
  · have h1 : (A.push i t).n = A.n := rfl
    rw [List.getElem?_eq_none (by simp [DK.texts, h1]; omega), List.getElem?_eq_none (by simp [DK.texts]; omega)]

/-- A row of at least one text: where it lies. -/
theorem StrsAt.slice {w : World} {B : Nat} {v : Value} {l : List ByteArray} (h : StrsAt w B v l) (hl : 0 < l.length) :
    ∃ g cap, v = .slice (some ⟨g, 0, none⟩) l.length cap ∧ B ≤ g ∧ g < w.heap.size ∧ (∀ k s, l[k]? = some s → w.cell? ⟨g, k, none⟩ = some (.string s)) ∧ (∀ k, w.frozen? ⟨g, k, none⟩ = false) ∧
      ∀ k t, k < l.length → StrsAt (w.setCell ⟨g, k, none⟩ (.string t)) B v (l.set k t) := by
  obtain ⟨g, cap, rfl, hb, hg⟩ := World.ownsRow.form h hl
  refine ⟨g, cap, rfl, hb, hg, fun k s hk => ?_, fun k => h.frozenAt k, fun k t hk => ?_⟩
  · have hkl : k < l.length := (List.getElem?_eq_some_iff.1 hk).1
    rw [h.cellAt k (by omega)]; simp [strV, hk]
  · have := h.stored k (.string t)
    unfold StrsAt
    rw [List.length_set]
    have e : strV (l.set k t) = (strV l).set k (.string t) := by simp [strV]
    rw [e]
    exact this.1

theorem DiskS.texts_len {w : World} {d : Nat} {S : Nat → Prop} {A : DK} (h : DiskS w d S A) : A.texts.length = A.n := by simp [DK.texts]
theorem DK.texts_few {A : DK} (h : A.n ≤ 12) : A.texts.length ≤ 1000000000 := by simp [DK.texts]; omega

end Go.Proofs.Ytbioeeccbcaljaa
