/- Points in memory; near, in, of, less, round. -/
import Derived.Test.YtadiajlegajclaaW0
import Derived.Test.YtadiajlegajclaaM1
import Derived.Test.YtadiajlegajclaaRows
import Derived.WalkSpells
import Derived.WalkLawsBesides
import Derived.Handy
import Derived.StillTailTactics
import Derived.Deep.QuietTactic
import Derived.BigQuiet
import Derived.IntWalk
set_option linter.unusedVariables false
set_option linter.unusedSimpArgs false
namespace Go.Proofs.Ytadiajlegajclaa
open Go.RowKit

abbrev Nothing : Nat → Prop := fun _ => False
abbrev ptV (p : Pt) : Value := .agg #[.int .i64 p.x, .int .i64 p.y]
abbrev bxV (b : Bx) : Value := .agg #[.int .i64 b.lo.x, .int .i64 b.lo.y, .int .i64 b.hi.x, .int .i64 b.hi.y]
def ptCells (l : List Pt) : List Value := l.flatMap fun p => [.int .i64 p.x, .int .i64 p.y]
theorem ptCells_length (l : List Pt) : (ptCells l).length = l.length * 2 := by
  induction l with
  | nil => rfl
  | cons p q ih => simp [ptCells] at ih ⊢; omega
theorem ptCells_append (q r : List Pt) : ptCells (q ++ r) = ptCells q ++ ptCells r := by simp [ptCells]
theorem ptCells_at : ∀ (q : List Pt) (k : Nat) (p : Pt), q[k]? = some p → (ptCells q)[k * 2]? = some (.int .i64 p.x) ∧ (ptCells q)[k * 2 + 1]? = some (.int .i64 p.y)
  | [], k, p, h => by simp at h
  | x :: q, 0, p, h => by simp at h; subst h; simp [ptCells]
  | x :: q, k + 1, p, h => by
    have ih := ptCells_at q k p (by simpa using h)
    have e : ∀ i, (ptCells (x :: q))[i + 2]? = (ptCells q)[i]? := fun i => by simp [ptCells]
    rw [show (k + 1) * 2 = k * 2 + 2 by omega, show k * 2 + 2 + 1 = (k * 2 + 1) + 2 by omega, e, e]
    exact ih

/-- A slice at A, below block B, reads as these points. -/
def PtsAt (w : World) (B : Nat) (A : Option Addr) (l : List Pt) : Prop :=
  ∀ k p, l[k]? = some p → ∃ b off, A = some ⟨b, off, none⟩ ∧ b < B ∧ w.cell? ⟨b, off + k * 2, none⟩ = some (.int .i64 p.x) ∧ w.cell? ⟨b, off + k * 2 + 1, none⟩ = some (.int .i64 p.y)
theorem PtsAt.keep {w w' : World} {B : Nat} {A : Option Addr} {l : List Pt} (h : PtsAt w B A l) (hk : ∀ k, k < B → w'.heap[k]? = w.heap[k]?) : PtsAt w' B A l := by
  intro k p hp
  obtain ⟨b, off, hA, hb, h0, h1⟩ := h k p hp
  exact ⟨b, off, hA, hb, (World.cell?_of_block (w := w) (hk b hb)).trans h0, (World.cell?_of_block (w := w) (hk b hb)).trans h1⟩
theorem PtsAt.mod {w w' : World} {B : Nat} {A : Option Addr} {l : List Pt} {S : Nat → Prop} (h : PtsAt w B A l) (hm : Mod S w w') (hB : B ≤ w.heap.size) (hS : ∀ k, k < B → ¬ S k) : PtsAt w' B A l :=
  h.keep fun k hk => hm.block k (Nat.lt_of_lt_of_le hk hB) (hS k hk)
theorem PtsAt.mono {w : World} {B B' : Nat} {A : Option Addr} {l : List Pt} (h : PtsAt w B A l) (hB : B ≤ B') : PtsAt w B' A l := by
  intro k p hp
  obtain ⟨b, off, hA, hb, h0, h1⟩ := h k p hp
  exact ⟨b, off, hA, Nat.lt_of_lt_of_le hb hB, h0, h1⟩

/-- A slice value owns these points. -/
def OwnPts (w : World) (v : Value) (l : List Pt) : Prop := w.ownsRow 0 24 2 v l.length (ptCells l)
theorem OwnPts.form {w : World} {v : Value} {l : List Pt} (h : OwnPts w v l) : ∃ A c, v = .slice A l.length c ∧ PtsAt w w.heap.size A l ∧ l.length ≤ c := by
  rcases h.2 with ⟨rfl, hn⟩ | ⟨g, cap, cur, rfl, _, hh, hnc, _, hcs, ht⟩
  · exact ⟨none, 0, by rw [hn], fun k p hk => by rw [List.eq_nil_of_length_eq_zero hn] at hk; simp at hk, by omega⟩
  · refine ⟨_, cap, rfl, fun k p hk => ⟨g, 0, rfl, lt_of_block hh, ?_⟩, hnc⟩
    have hkl : k < l.length := (List.getElem?_eq_some_iff.1 hk).1
    obtain ⟨h0, h1⟩ := ptCells_at l k p hk
    have e : ∀ i, i < l.length * 2 → cur[i]? = (ptCells l)[i]? := fun i hi => by
      rw [← ht, List.getElem?_take_of_lt hi]; simp
    rw [Nat.zero_add]
    exact ⟨(cell_of_row w g (k * 2) cur 24 (0, 0) hh).trans ((e _ (by omega)).trans h0), (cell_of_row w g (k * 2 + 1) cur 24 (0, 0) hh).trans ((e _ (by omega)).trans h1)⟩

def BPost (b : Bool) (w : World) (e : Ending) (w' : World) : Prop := e = .returned (.bool b) ∧ Mod Nothing w w'
def PPost (p : Pt) (w : World) (e : Ending) (w' : World) : Prop := e = .returned (ptV p) ∧ Mod Nothing w w'
def IPost (n : Int) (w : World) (e : Ending) (w' : World) : Prop := e = .returned (.int .i64 n) ∧ Mod Nothing w w'
abbrev raV (r : Ra) : Value := .agg #[.int .i64 r.1, .int .i64 r.2]
def RaPost (r : Ra) (w : World) (e : Ending) (w' : World) : Prop := e = .returned (raV r) ∧ Mod Nothing w w'

theorem ret_bool {a b : Bool} (h : a = b) : Ending.returned (.bool a) = .returned (.bool b) := by rw [h]
theorem ret_int {k : IntKind} {a b : Int} (h : a = b) : Ending.returned (.int k a) = .returned (.int k b) := by rw [h]
theorem run_max4 (P : Program) (w : World) (ats : Array TypeId) (ty : TypeId) (a b c d : Int) :
    (Builtin.max_ ats ty #[.int .i64 a, .int .i64 b, .int .i64 c, .int .i64 d]).run P w = .ok (.int .i64 (max (max (max a b) c) d)) w := by
  have h2 : ∀ x y : Int, Builtin.max2 (.int .i64 x) (.int .i64 y) = pure (.int .i64 (max x y)) := fun x y => by
    simp only [Builtin.max2, gt_iff_lt]
    congr 2
    split <;> omega
  simp only [Builtin.max_, List.foldlM_cons, List.foldlM_nil, h2, pure_bind]
  rfl

theorem max4_le {a b c d k : Int} : max a (max b (max c d)) ≤ k ↔ a ≤ k ∧ b ≤ k ∧ c ≤ k ∧ d ≤ k := by
  rw [Int.max_le, Int.max_le, Int.max_le]
theorem lt_max4 {a b c d k : Int} : k < max a (max b (max c d)) ↔ k < a ∨ k < b ∨ k < c ∨ k < d := by
  rw [← Int.not_le, max4_le]
  omega
set_option maxHeartbeats 400000 in
theorem near_any (p : Pt) (w : World) (h1 : -9223372036854775808 ≤ p.x) (h2 : p.x ≤ 9223372036854775807) (h3 : -9223372036854775808 ≤ p.y) (h4 : p.y ≤ 9223372036854775807) : Calls Try.prog 44 #[ptV p] w (BPost (nearB p) w) := by
  have hmx := run_max4 Try.prog
  go_enter Try.func44, Try.ntmps44
  go_wp2
  all_goals
    go_returns
    refine ⟨ret_bool ?_, (Mod.refl _ _).alloc _⟩
    rw [Bool.eq_iff_iff, nearB_iff]
    have hX : wrap64 (-p.x) = -p.x ∨ p.x ≤ -9223372036854775808 := by unfold wrap64; omega
    have hY : wrap64 (-p.y) = -p.y ∨ p.y ≤ -9223372036854775808 := by unfold wrap64; omega
    clear hmx
    generalize wrap64 (-p.x) = X at *
    generalize wrap64 (-p.y) = Y at *
    simp only [max4_le, lt_max4, decide_eq_true_eq, Bool.false_eq_true, false_iff] at *
    omega

set_option maxHeartbeats 400000 in
theorem in_any (p : Pt) (b : Bx) (w : World) : Calls Try.prog 30 #[ptV p, bxV b] w (BPost (inB p b) w) := by
  go_enter Try.func30, Try.ntmps30
  go_wp2
  all_goals
    go_returns
    refine ⟨ret_bool ?_, ((Mod.refl _ _).alloc _).alloc _⟩
    rw [Bool.eq_iff_iff, inB_iff]
    simp only [Bool.and_eq_true, decide_eq_true_eq, Bool.false_eq_true, false_iff]
    omega
set_option maxHeartbeats 400000 in
theorem rin_any (p : Pt) (b : Bx) (w : World) : Calls Try.prog 20 #[ptV p, bxV b] w (BPost (inB p b) w) := by
  go_enter Try.func20, Try.ntmps20
  go_wp2
  all_goals
    go_returns
    refine ⟨ret_bool ?_, ((Mod.refl _ _).alloc _).alloc _⟩
    rw [Bool.eq_iff_iff, inB_iff]
    simp only [Bool.and_eq_true, decide_eq_true_eq, Bool.false_eq_true, false_iff]
    omega
theorem ris_any (p : Pt) (w : World) : Calls Try.prog 41 #[ptV p] w (BPost (nearB p) w) := by
  go_enter Try.func41, Try.ntmps41
  go_wp2
  all_goals
    go_returns
    refine ⟨ret_bool ?_, (Mod.refl _ _).alloc _⟩
    rw [Bool.eq_iff_iff, nearB_iff]
    simp only [Bool.and_eq_true, decide_eq_true_eq, Bool.false_eq_true, false_iff]
    omega

set_option maxHeartbeats 400000 in
theorem of_any (a b : Int) (w : World) (h1 : -9223372036854775807 ≤ a) (h2 : a ≤ 9223372036854775807) (h3 : -9223372036854775807 ≤ b) (h4 : b ≤ 9223372036854775807) : Calls Try.prog 48 #[.int .i64 a, .int .i64 b] w (RaPost (raOf a b) w) := by
  by_cases hb : b < 0
  · have e : raOf a b = (-a, -b) := by rw [raOf, if_pos hb]
    rw [e]
    clear e
    go_enter Try.func48, Try.ntmps48
    go_wp2
    exact bodyPost_ret (v := raV (-a, -b)) (by simp [results, Try.results48, go_sem]) rfl ⟨rfl, (Mod.refl _ _).alloc _⟩
  · have e : raOf a b = (a, b) := by rw [raOf, if_neg hb]
    rw [e]
    clear e
    go_enter Try.func48, Try.ntmps48
    go_wp2
    exact bodyPost_ret (v := raV (a, b)) (by simp [results, Try.results48, go_sem]) rfl ⟨rfl, (Mod.refl _ _).alloc _⟩

theorem mul_bd {a b A B : Int} (h1 : -A ≤ a) (h2 : a ≤ A) (h3 : -B ≤ b) (h4 : b ≤ B) : -(A * B) ≤ a * b ∧ a * b ≤ A * B := by
  have hA : 0 ≤ A := by omega
  have hB : 0 ≤ B := by omega
  have h := Int.natAbs_mul a b
  have e1 : (a.natAbs : Int) ≤ A := by omega
  have e2 : (b.natAbs : Int) ≤ B := by omega
  have e3 : ((a * b).natAbs : Int) ≤ A * B := by
    rw [h, Int.natCast_mul]
    exact Int.mul_le_mul e1 e2 (by omega) hA
  omega

set_option maxHeartbeats 400000 in
theorem less_any (r s : Ra) (w : World) (hr : RaOk r) (hs : RaOk s) : Calls Try.prog 49 #[raV r, raV s] w (BPost (Ra.less r s) w) := by
  obtain ⟨r1, r2, r3, r4⟩ := hr
  obtain ⟨s1, s2, s3, s4⟩ := hs
  have m1 := mul_bd (a := r.1) (b := s.2) (A := 4194304) (B := 4194304) (by omega) (by omega) (by omega) (by omega)
  have m2 := mul_bd (a := s.1) (b := r.2) (A := 4194304) (B := 4194304) (by omega) (by omega) (by omega) (by omega)
  obtain ⟨m1, m3⟩ := m1
  obtain ⟨m2, m4⟩ := m2
  go_enter Try.func49, Try.ntmps49
  go_wp2
  all_goals
    go_returns
    refine ⟨ret_bool ?_, ((Mod.refl _ _).alloc _).alloc _⟩
    rw [Bool.eq_iff_iff]
    unfold Ra.less
    simp only [decide_eq_true_eq]
theorem rnd_eq {a b : Int} (hb : 0 < b) : rnd a b = if Int.tmod (2 * a + b) (2 * b) < 0 then Int.tdiv (2 * a + b) (2 * b) - 1 else Int.tdiv (2 * a + b) (2 * b) := by
  unfold rnd
  have h3 := Int.emod_nonneg (2 * a + b) (show 2 * b ≠ 0 by omega)
  have h4 := Int.emod_lt_of_pos (2 * a + b) (show 0 < 2 * b by omega)
  have hs : (2 * b).sign = 1 := Int.sign_eq_one_of_pos (by omega)
  rw [Int.tdiv_eq_ediv, Int.tmod_eq_emod, hs]
  by_cases h : 0 ≤ 2 * a + b ∨ 2 * b ∣ 2 * a + b
  · rw [if_pos h, if_pos h, if_neg (by omega)]
    omega
  · rw [if_neg h, if_neg h, if_pos (by omega)]
    omega

theorem tdiv_bd {a : Int} (b : Int) {K : Int} (h1 : -K ≤ a) (h2 : a ≤ K) : -K ≤ a.tdiv b ∧ a.tdiv b ≤ K := by
  have h := Int.natAbs_tdiv a b
  have h3 : (a.tdiv b).natAbs ≤ a.natAbs := by rw [h]; exact Nat.div_le_self _ _
  omega
set_option maxHeartbeats 400000 in
theorem round_any (r : Ra) (n : Int) (w : World) (hr : RaOk r) (hn1 : -4194304 ≤ n) (hn2 : n ≤ 4194304) : Calls Try.prog 51 #[raV r, .int .i64 n] w (IPost (rnd (r.1 * n) r.2) w) := by
  obtain ⟨r1, r2, r3, r4⟩ := hr
  obtain ⟨num, den⟩ := r
  simp only at r1 r2 r3 r4 ⊢
  obtain ⟨m1, m2⟩ := mul_bd (a := num) (b := n) (A := 4194304) (B := 4194304) (by omega) (by omega) (by omega) (by omega)
  have e : 2 * num * n = 2 * (num * n) := Int.mul_assoc _ _ _
  have hR := rnd_eq (a := num * n) r1
  obtain ⟨R, hRR⟩ : ∃ R, R = rnd (num * n) den := ⟨_, rfl⟩
  rw [← hRR] at hR ⊢
  have HR := hid_ hR
  clear hR hRR
  go_enter Try.func51, Try.ntmps51
  go_wp2
  have v1 : IntKind.i64.wrap (2 * num) = 2 * num := IntWalk.i64_in _ (by omega)
  have v2 : IntKind.i64.wrap (2 * num * n) = 2 * num * n := IntWalk.i64_in _ (by omega)
  have v3 : IntKind.i64.wrap (2 * num * n + den) = 2 * num * n + den := IntWalk.i64_in _ (by omega)
  have v4 : IntKind.i64.wrap (2 * den) = 2 * den := IntWalk.i64_in _ (by omega)
  go_quiet (fail)
  clear v1 v2 v3 v4
  have HTD := hid_ (tdiv_bd (a := 2 * (num * n) + den) (2 * den) (K := 100000000000000) (by omega) (by omega))
  go_wp2
  · go_returns
    refine ⟨ret_int ?_, ((Mod.refl _ _).alloc _).drewN _⟩
    have hlt : (2 * (num * n) + den).tmod (2 * den) < 0 := by assumption
    have htd := HTD.out
    rw [HR.out, if_pos hlt]
    exact IntWalk.wrap64_in _ ⟨by omega, by omega⟩
  · go_returns
    refine ⟨ret_int ?_, ((Mod.refl _ _).alloc _).drewN _⟩
    have hlt : 0 ≤ (2 * (num * n) + den).tmod (2 * den) := by assumption
    rw [HR.out, if_neg (by omega)]
end Go.Proofs.Ytadiajlegajclaa
