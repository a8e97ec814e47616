/- The reference disk in memory, told by the same data; set, Start, Arm. -/
import Derived.Test.YtbioeeccbcaljaaC7
set_option linter.unusedVariables false
set_option linter.unusedSimpArgs false
namespace Go.Proofs.Ytbioeeccbcaljaa
open Go.RowKit

def DK.secs (A : DK) : List ByteArray := (List.range A.n).map A.sec
theorem DK.secs_len (A : DK) : A.secs.length = A.n := by simp [DK.secs]
def pairCells (q : List (Nat × ByteArray)) : List Value := q.flatMap fun p => [.int .i64 (p.1 : Int), .string p.2]
theorem pairCells_length (q : List (Nat × ByteArray)) : (pairCells q).length = q.length * 2 := by
  induction q with
  | nil => rfl
  | cons p q ih => simp [pairCells] at ih ⊢; omega
theorem pairCells_append (q r : List (Nat × ByteArray)) : pairCells (q ++ r) = pairCells q ++ pairCells r := by simp [pairCells]
theorem pairCells_at : ∀ (q : List (Nat × ByteArray)) (k : Nat) (p : Nat × ByteArray), q[k]? = some p →
    (pairCells q)[k * 2]? = some (.int .i64 (p.1 : Int)) ∧ (pairCells q)[k * 2 + 1]? = some (.string p.2)
  | [], k, p, h => by simp at h
  | x :: q, 0, p, h => by simp at h; subst h; simp [pairCells]
  | x :: q, k + 1, p, h => by
    have ih := pairCells_at q k p (by simpa using h)
    have e : ∀ i, (pairCells (x :: q))[i + 2]? = (pairCells q)[i]? := fun i => by simp [pairCells]
    rw [show (k + 1) * 2 = k * 2 + 2 by omega, show k * 2 + 2 + 1 = (k * 2 + 1) + 2 by omega, e, e]
    exact ih

/-- Where the reference's disk lies. -/
structure RF where
  d : Nat
  sb : Nat
  sc : Nat
  pv : Value
  af : Int
  wr : Int
  by_ : Int
def RF.has (G : RF) (k : Nat) : Prop := k = G.d ∨ k = G.sb ∨ G.pv.ownBlock = some k
def RF.sv (G : RF) (n : Nat) : Value := .slice (some ⟨G.sb, 0, none⟩) n G.sc

structure RefAt (w : World) (G : RF) (A : DK) : Prop where
  head : Bk w G.d 63 [G.sv A.n, G.pv, .bool (!A.off), .bool A.arm.isSome, .int .i64 G.af, .int .i64 G.wr, .int .i64 G.by_]
  stable : StrsAt w 0 (G.sv A.n) A.secs
  queue : w.ownsRow 0 72 2 G.pv A.q.length (pairCells A.q)
  armed : ∀ a x y, A.arm = some (a, x, y) → G.af = a ∧ G.wr = x ∧ G.by_ = y
  ok : A.Ok

section
variable {w w' : World} {G : RF} {A : DK}
theorem RefAt.lt (h : RefAt w G A) {k : Nat} (hk : G.has k) : k < w.heap.size := by
  rcases hk with rfl | rfl | hk
  · exact h.head.lt
  · exact (strs_low h.stable rfl).2
  · exact own_lt h.queue hk
theorem RefAt.keep (h : RefAt w G A) (hk : ∀ k, G.has k → w'.heap[k]? = w.heap[k]?) : RefAt w' G A where
  head := (hk _ (.inl rfl)).trans h.head
  stable := own_keep h.stable fun k e => hk k (.inr (.inl (by injection e with e; exact e.symm)))
  queue := own_keep h.queue fun k e => hk k (.inr (.inr e))
  armed := h.armed
  ok := h.ok
theorem RefAt.mod {S : Nat → Prop} (h : RefAt w G A) (hm : Mod S w w') (hS : ∀ k, G.has k → ¬ S k) : RefAt w' G A :=
  h.keep fun k hk => hm.block k (h.lt hk) (hS k hk)
theorem RefAt.ne_sb (h : RefAt w G A) : G.sb ≠ G.d := own_ne h.stable rfl h.head (by decide)
theorem RefAt.ne_q (h : RefAt w G A) {k : Nat} (hk : G.pv.ownBlock = some k) : k ≠ G.d ∧ k ≠ G.sb := by
  refine ⟨own_ne h.queue hk h.head (by decide), ?_⟩
  rintro rfl
  rcases h.queue.2 with ⟨hv, _⟩ | ⟨g, cap, cur, hv, _, hh, _⟩
  · rw [hv] at hk; cases hk
  · rcases h.stable.2 with ⟨hv2, _⟩ | ⟨g2, cap2, cur2, hv2, _, hh2, _⟩
    · cases hv2
    · rw [hv] at hk
      have e1 : g = G.sb := by injection hk
      have e2 : G.sb = g2 := by unfold RF.sv at hv2; injection hv2 with hp; injection hp with hp; injection hp
      rw [e1] at hh
      rw [← e2] at hh2
      rw [hh2] at hh
      injection hh with hh
      injection hh with _ ht
      cases ht
end

/-- After a call on the reference: the disk is A' then, and nothing else has changed. -/
def GPost (G : RF) (w : World) (A' : DK) (w' : World) : Prop :=
  ∃ G' : RF, G'.d = G.d ∧ (∀ k, G'.has k → G.has k ∨ w.heap.size ≤ k) ∧ RefAt w' G' A' ∧ Mod G.has w w'
theorem GPost.same {w w' : World} {G : RF} {A : DK} (h : RefAt w G A) (hm : Mod Nothing w w') : GPost G w A w' :=
  ⟨G, rfl, fun _ h => .inl h, h.mod hm (fun _ _ => id), hm.mono (fun _ _ => False.elim)⟩
theorem GPost.trans {w w1 w' : World} {G G1 : RF} {A' : DK} (e : G1.d = G.d) (hs : ∀ k, G1.has k → G.has k ∨ w.heap.size ≤ k) (hm : Mod G.has w w1) (h : GPost G1 w1 A' w') : GPost G w A' w' := by
  obtain ⟨G', e', hs', hD, hm'⟩ := h
  refine ⟨G', e'.trans e, fun k hk => ?_, hD, hm.trans hm' (fun i hi hk => ?_)⟩
  · rcases hs' k hk with h | h
    · exact hs k h
    · exact .inr (Nat.le_trans hm.size h)
  · rcases hs i hk with h | h
    · exact h
    · omega

/-- The struct's own cells have been written. -/
theorem RefAt.again {w w' : World} {G : RF} {A : DK} (h : RefAt w G A) {q' : List (Nat × ByteArray)} {pv' : Value} {off' : Bool} {arm' : Option (Int × Int × Int)} {af' wr' by' : Int}
    (hb : Bk w' G.d 63 [G.sv A.n, pv', .bool (!off'), .bool arm'.isSome, .int .i64 af', .int .i64 wr', .int .i64 by'])
    (hq : (pv' = G.pv ∧ q' = A.q) ∨ (pv' = .slice none 0 0 ∧ q' = []))
    (ha : ∀ a x y, arm' = some (a, x, y) → (af' = a ∧ wr' = x ∧ by' = y) ∧ 0 ≤ a ∧ a ≤ 9223372036854775807)
    (hk : ∀ k, (k = G.sb ∨ G.pv.ownBlock = some k) → w'.heap[k]? = w.heap[k]?) : RefAt w' ⟨G.d, G.sb, G.sc, pv', af', wr', by'⟩ { A with q := q', off := off', arm := arm' } where
  head := hb
  stable := own_keep h.stable fun k e => hk k (.inl (by injection e with e; exact e.symm))
  queue := by
    rcases hq with ⟨rfl, rfl⟩ | ⟨rfl, rfl⟩
    · exact own_keep h.queue fun k e => hk k (.inr e)
    · exact World.ownsRow_nil _ _ _ _
  armed := fun a x y e => (ha a x y e).1
  ok := by
    refine ⟨h.ok.len, h.ok.pos, h.ok.top, ?_, ?_, fun a x y e => (ha a x y e).2.1, fun a x y e => (ha a x y e).2.2⟩
    · rcases hq with ⟨rfl, rfl⟩ | ⟨rfl, rfl⟩
      · exact h.ok.items
      · simp
    · rcases hq with ⟨rfl, rfl⟩ | ⟨rfl, rfl⟩
      · exact h.ok.few
      · simp
theorem RF.again_has {G : RF} {pv' : Value} {a b c : Int} (hq : pv' = G.pv ∨ pv' = .slice none 0 0) {k : Nat} (hk : (⟨G.d, G.sb, G.sc, pv', a, b, c⟩ : RF).has k) : G.has k := by
  rcases hk with h | h | h
  · exact .inl h
  · exact .inr (.inl h)
  · rcases hq with rfl | rfl
    · exact .inr (.inr h)
    · cases h

abbrev rptr (G : RF) : Value := .pointer (some ⟨G.d, 0, none⟩)
theorem Bk.seven {w : World} {g : Nat} {t : TypeId} {a b c d e f i : Value} (h : Bk w g t [a, b, c, d, e, f, i]) :
    w.cell? ⟨g, 0, none⟩ = some a ∧ w.cell? ⟨g, 1, none⟩ = some b ∧ w.cell? ⟨g, 2, none⟩ = some c ∧ w.cell? ⟨g, 3, none⟩ = some d ∧ w.cell? ⟨g, 4, none⟩ = some e ∧ w.cell? ⟨g, 5, none⟩ = some f ∧ w.cell? ⟨g, 6, none⟩ = some i ∧
      w.frozen? ⟨g, 0, none⟩ = false ∧ w.frozen? ⟨g, 1, none⟩ = false ∧ w.frozen? ⟨g, 2, none⟩ = false ∧ w.frozen? ⟨g, 3, none⟩ = false ∧ w.frozen? ⟨g, 4, none⟩ = false ∧ w.frozen? ⟨g, 5, none⟩ = false ∧ w.frozen? ⟨g, 6, none⟩ = false ∧ g < w.heap.size :=
  ⟨h.cell 0, h.cell 1, h.cell 2, h.cell 3, h.cell 4, h.cell 5, h.cell 6, h.frozen 0, h.frozen 1, h.frozen 2, h.frozen 3, h.frozen 4, h.frozen 5, h.frozen 6, h.lt⟩

def RVPost (G : RF) (A' : DK) (w : World) (e : Ending) (w' : World) : Prop := e = .returned (.tuple #[]) ∧ GPost G w A' w'
def RIPost (G : RF) (r : Int × DK) (w : World) (e : Ending) (w' : World) : Prop := e = .returned (.int .i64 r.1) ∧ GPost G w r.2 w'

set_option maxHeartbeats 400000 in
theorem rstart_any {w : World} {G : RF} {A : DK} (h : RefAt w G A) : Calls Try.prog 36 #[rptr G] w (RVPost G A.start w) := by
  obtain ⟨c0, c1, c2, c3, c4, c5, c6, f0, f1, f2, f3, f4, f5, f6, hd⟩ := h.head.seven
  have H := hid_ h
  clear h
  go_enter Try.func36, Try.ntmps36
  go_wp2

  go_end0
  refine ⟨rfl, ⟨G.d, G.sb, G.sc, G.pv, G.af, G.wr, G.by_⟩, rfl, fun k hk => .inl (RF.again_has (.inl rfl) hk), ?_, ?_⟩
  · refine H.out.again (off' := false) (arm' := none) ((H.out.head.set 2 _).set 3 _) (.inl ⟨rfl, rfl⟩) (fun _ _ _ e => by cases e) ?_
    rintro k (rfl | hk)
    · rw [Below.heap_setCell _ _ _ _ H.out.ne_sb, Below.heap_setCell _ _ _ _ H.out.ne_sb]
    · rw [Below.heap_setCell _ _ _ _ (H.out.ne_q hk).1, Below.heap_setCell _ _ _ _ (H.out.ne_q hk).1]
  · exact ((Mod.refl _ _).setCell (fun _ => .inl rfl) _).setCell (fun _ => .inl rfl) _

set_option maxHeartbeats 400000 in
theorem rarm_any {w : World} {G : RF} {A : DK} (h : RefAt w G A) (a x y : Int) (ha : a ≤ 9223372036854775807) : Calls Try.prog 37 #[rptr G, .int .i64 a, .int .i64 x, .int .i64 y] w (RVPost G (A.armK a x y) w) := by
  obtain ⟨c0, c1, c2, c3, c4, c5, c6, f0, f1, f2, f3, f4, f5, f6, hd⟩ := h.head.seven
  have H := hid_ h
  cases ho : A.off with
  | true =>
    rw [ho] at c2
    simp only [Bool.not_true] at c2
    have HO : Hid (A.off = true) := ho
    clear h ho
    go_enter Try.func37, Try.ntmps37
    go_wp2
    go_returns
    refine ⟨rfl, ?_⟩
    rw [DK.armK, if_pos HO.out]
    exact .same H.out (Mod.refl _ _)
  | false =>
    rw [ho] at c2
    simp only [Bool.not_false] at c2
    have HO : Hid (A.off = false) := ho
    clear h ho
    go_enter Try.func37, Try.ntmps37
    go_wp2
    go_end0
    have e : (if 0 ≤ a then some (a, x, y) else none : Option (Int × Int × Int)).isSome = decide (0 ≤ a) := by
      by_cases hp : 0 ≤ a
      · simp [hp]
      · simp [hp]
    refine ⟨rfl, ⟨G.d, G.sb, G.sc, G.pv, a, x, y⟩, rfl, fun k hk => .inl (RF.again_has (.inl rfl) hk), ?_, ?_⟩
    · rw [DK.armK, if_neg (by rw [HO.out]; simp)]
      refine H.out.again (q' := A.q) (off' := A.off) (arm' := if 0 ≤ a then some (a, x, y) else none) (by rw [e]; exact ((((H.out.head.set 3 (.bool (decide (0 ≤ a)))).set 4 (.int .i64 a)).set 5 (.int .i64 x)).set 6 (.int .i64 y))) (.inl ⟨rfl, rfl⟩) ?_ ?_
      · intro a' x' y' he
        by_cases hp : 0 ≤ a
        · rw [if_pos hp] at he; cases he; exact ⟨⟨rfl, rfl, rfl⟩, hp, ha⟩
        · rw [if_neg hp] at he; cases he
      · rintro k (rfl | hk)
        · rw [Below.heap_setCell _ _ _ _ H.out.ne_sb, Below.heap_setCell _ _ _ _ H.out.ne_sb, Below.heap_setCell _ _ _ _ H.out.ne_sb, Below.heap_setCell _ _ _ _ H.out.ne_sb]
        · rw [Below.heap_setCell _ _ _ _ (H.out.ne_q hk).1, Below.heap_setCell _ _ _ _ (H.out.ne_q hk).1, Below.heap_setCell _ _ _ _ (H.out.ne_q hk).1, Below.heap_setCell _ _ _ _ (H.out.ne_q hk).1]
    · exact ((((Mod.refl _ _).setCell (fun _ => .inl rfl) _).setCell (fun _ => .inl rfl) _).setCell (fun _ => .inl rfl) _).setCell (fun _ => .inl rfl) _

theorem RefAt.srow {w : World} {G : RF} {A : DK} (h : RefAt w G A) : (∀ k, k < A.n → w.cell? ⟨G.sb, k, none⟩ = some (.string (A.sec k))) ∧ (∀ k, w.frozen? ⟨G.sb, k, none⟩ = false) := by
  have hs := h.stable
  unfold StrsAt RF.sv at hs
  rw [A.secs_len] at hs
  refine ⟨fun k hk => ?_, fun k => hs.frozenAt k⟩
  rw [hs.cellAt k (by omega)]
  simp [strV, DK.secs, hk]
theorem RefAt.qrow {w : World} {G : RF} {A : DK} (h : RefAt w G A) {k : Nat} {p : Nat × ByteArray} (hk : A.q[k]? = some p) :
    ∃ g cap, G.pv = .slice (some ⟨g, 0, none⟩) A.q.length cap ∧ g < w.heap.size ∧ w.cell? ⟨g, k * 2, none⟩ = some (.int .i64 (p.1 : Int)) ∧ w.cell? ⟨g, k * 2 + 1, none⟩ = some (.string p.2) := by
  have hlt : k < A.q.length := (List.getElem?_eq_some_iff.1 hk).1
  obtain ⟨g, cap, hv, _, hg⟩ := h.queue.form (by omega)
  have hq := h.queue
  rw [hv] at hq
  obtain ⟨h0, h1⟩ := pairCells_at A.q k p hk
  exact ⟨g, cap, hv, hg, by rw [hq.cellAt _ (by omega)]; exact h0, by rw [hq.cellAt _ (by omega)]; exact h1⟩

/-- One sector has been written. -/
theorem RefAt.stored {w : World} {G : RF} {A : DK} (h : RefAt w G A) {i : Nat} {t : ByteArray} {st' : List UInt8} (hi : i < A.n) (hl : st'.length = A.n * 64) (hs : ({ A with st := st' } : DK).secs = A.secs.set i t) :
    RefAt (w.setCell ⟨G.sb, i, none⟩ (.string t)) G { A with st := st' } where
  head := h.head.far (Ne.symm h.ne_sb) _
  stable := by
    obtain ⟨g, cap, hv, _, _, _, _, hst⟩ := h.stable.slice (by rw [A.secs_len]; have := h.ok.pos; omega)
    unfold RF.sv at hv
    injection hv with hp _ _
    injection hp with hp
    injection hp with hp
    subst hp
    show StrsAt _ 0 (G.sv A.n) ({ A with st := st' } : DK).secs
    rw [hs]
    exact hst i t (by rw [A.secs_len]; exact hi)
  queue := own_keep h.queue fun k e => Below.heap_setCell _ _ _ _ (h.ne_q e).2
  armed := h.armed
  ok := ⟨hl, h.ok.pos, h.ok.top, h.ok.items, h.ok.few, h.ok.lo, h.ok.hi⟩
theorem DK.secs_put1 {A : DK} (hl : A.st.length = A.n * 64) {p : Nat × ByteArray} (hp : p.1 < A.n ∧ p.2.size = 64) : ({ A with st := put1 A.st p } : DK).secs = A.secs.set p.1 p.2 := by
  apply List.ext_getElem?
  intro j
  rw [List.getElem?_set, A.secs_len]
  unfold DK.secs
  by_cases hj : j < A.n
  · simp only [List.getElem?_map, List.getElem?_range hj, Option.map_some]
    have h1 := secL_put1 j hl hp hj
    by_cases e : p.1 = j
    · rw [if_pos e] at h1
      rw [if_pos e, if_pos hp.1]
      congr 1
      exact ba_ext h1
    · rw [if_neg e] at h1
      rw [if_neg e]
      congr 1
      exact ba_ext h1
  · rw [List.getElem?_eq_none (by simp; omega), if_neg (by omega), List.getElem?_eq_none (by simp; omega)]

theorem rset_any {w : World} {G : RF} {A : DK} (h : RefAt w G A) (i : Nat) (hi : i < A.n) (t : ByteArray) : Calls Try.prog 47 #[rptr G, .int .i64 (i : Int), .string t] w fun e w' => e = .returned (.tuple #[]) ∧ w' = w.setCell ⟨G.sb, i, none⟩ (.string t) := by
  obtain ⟨c0, c1, c2, c3, c4, c5, c6, f0, f1, f2, f3, f4, f5, f6, hd⟩ := h.head.seven
  unfold RF.sv at c0
  have hc := h.srow.1 i hi
  have hf := h.srow.2 i
  have htop := h.ok.top
  clear h
  go_enter Try.func47, Try.ntmps47
  go_wp2
  go_end0
  exact ⟨rfl, rfl⟩

set_option maxHeartbeats 1000000 in
theorem rsettle_any {w : World} {G : RF} {A : DK} (h : RefAt w G A) (n : Nat) (hn : n ≤ A.q.length) : Calls Try.prog 46 #[rptr G, .int .i64 (n : Int)] w fun e w' => e = .returned (.tuple #[]) ∧ RefAt w' G { A with st := settleL A.st (A.q.take n) } ∧ Mod (fun k => k = G.sb) w w' := by
  have H := hid_ h
  have hfew := h.ok.few
  clear h
  go_enter Try.func46, Try.ntmps46
  go_wp2
  go_loopw [4] (fun i wr => ∃ k : Nat, k ≤ n ∧ i = .int .i64 k ∧ RefAt wr G { A with st := settleL A.st (A.q.take k) } ∧ Mod (fun k => k = G.sb) w wr) (fun i _ => n - (intOf i).toNat)
  case atStart => exact ⟨0, Nat.zero_le _, rfl, H.out, Mod.refl _ _⟩
  case round =>
    obtain ⟨k, hk, rfl, hr, hmod⟩ := hrel
    have HR := hid_ hr
    have HM := hid_ hmod
    clear hr hmod
    by_cases hlt : k < n
    · obtain ⟨p, hp⟩ : ∃ p, A.q[k]? = some p := ⟨_, List.getElem?_eq_getElem (by omega)⟩
      have hpi := H.out.ok.items p (List.mem_of_getElem? hp)
      obtain ⟨g, cap, hpv, hg, d0, d1⟩ := HR.out.qrow (k := k) (p := p) hp
      obtain ⟨c0, c1, c2, c3, c4, c5, c6, f0, f1, f2, f3, f4, f5, f6, hd⟩ := HR.out.head.seven
      rw [hpv] at c1
      have HP := hid_ hp
      have HPI := hid_ hpi
      simp only at c1 d0 d1
      have a1 : (0 : Int) ≤ k := by omega
      have a2 : (k : Int) < A.q.length := by omega
      clear hp hpi hpv c0 c2 c3 c4 c5 c6 f0 f1 f2 f3 f4 f5 f6
      go_wp2_with fail
      refine still_tail 17 (by kernel_rfl) (by kernel_rfl) ?_
      simp only [List.take_succ_cons, List.take_zero, List.drop_succ_cons, List.drop_zero]
      repeat still_step
      refine wpStill_nil ?_
      go_wp2_with fail
      refine (rset_any (A := { A with st := settleL A.st (A.q.take k) }) (show RefAt wr.drew G _ from HR.out.keep fun _ _ => rfl) p.1 HPI.out.1 p.2).mono ?_
      rintro e w' ⟨rfl, rfl⟩
      have HS := hid_ ((show RefAt wr.drew G _ from HR.out.keep fun _ _ => rfl).stored (t := p.2) (st' := settleL A.st (A.q.take (k + 1))) HPI.out.1 (by
        have := (secB_settle (n := A.n) HPI.out.1 (A.q.take (k + 1)) A.st H.out.ok.len (fun p' hp' => H.out.ok.items p' (List.mem_of_mem_take hp'))).2
        exact this) (by
        rw [settleL_snoc _ _ _ _ HP.out]
        exact DK.secs_put1 (A := { A with st := settleL A.st (A.q.take k) }) HR.out.ok.len HPI.out))
      have HM2 := hid_ (HM.out.drew.setCell (p := ⟨G.sb, p.1, none⟩) (fun _ => rfl) (.string p.2))
      go_wp2
      go_roundw
      case rel => exact ⟨k + 1, by omega, by go_num, HS.out, HM2.out⟩
      case measure => simp [intOf]; omega
    · have hkn : k = n := by omega
      subst hkn
      go_wp2
      go_end0
      exact ⟨rfl, HR.out, HM.out⟩

end Go.Proofs.Ytbioeeccbcaljaa
