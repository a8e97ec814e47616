/- The built-in copy out of a string into a row of bytes that is known whole. -/
import Derived.Test.YtbioeeccbcaljaaA1
set_option linter.unusedVariables false
set_option linter.unusedSimpArgs false
namespace Go.Proofs.Ytbioeeccbcaljaa
open Go.RowKit

theorem u8s_append (a b : List UInt8) : u8s (a ++ b) = u8s a ++ u8s b := by simp [u8s]
theorem u8s_take (a : List UInt8) (n : Nat) : u8s (a.take n) = (u8s a).take n := by simp [u8s]
theorem u8s_drop (a : List UInt8) (n : Nat) : u8s (a.drop n) = (u8s a).drop n := by simp [u8s]
theorem u8s_splice (a b : List UInt8) (o : Nat) : u8s (splice a o b) = splice (u8s a) o (u8s b) := by
  simp [splice, u8s_append, u8s_take, u8s_drop, u8s_length]
theorem u8s_one (a : List UInt8) : ∀ v ∈ u8s a, v.oneCell' = true := by
  intro v hv
  obtain ⟨_, _, rfl⟩ := List.mem_map.1 hv
  rfl

/-- The bytes of a string, as a list. -/
abbrev bts (s : ByteArray) : List UInt8 := s.data.toList

theorem run_copy_string {P : Program} (w : World) (dT sT ty elem : TypeId) (g o dLen dCap : Nat) (s : ByteArray) (cur : List Value) (t : TypeId)
    (hu : P.underlying dT = some (.slice elem)) (hs : (P.info? elem).map (·.size) = some 1) (hg : Bk w g t cur) (hn : s.size ≤ dLen) (hfit : o + s.size ≤ cur.length) :
    (Builtin.copy_ #[dT, sT] ty #[.slice (some ⟨g, o, none⟩) dLen dCap, .string s]).run P w = .ok (goInt s.size) (w.setRow g (splice cur o (u8s (bts s))).toArray) := by
  have hl : (bts s).length = s.size := rfl
  have hst := run_storeCells_at P g o t (u8s (bts s)) 0 cur.toArray w hg (by simpa [u8s_length, hl] using hfit) (u8s_one _)
  have hmin : Nat.min s.size dLen = s.size := Nat.min_eq_left hn
  have hcs : List.take s.size (List.map (fun b : UInt8 => Value.int IntKind.u8 b.toNat) s.data.toList) = u8s (bts s) :=
    List.take_of_length_le (by rw [List.length_map]; exact Nat.le_refl _)
  have hst' : (storeCells ⟨g, o, none⟩ (u8s (bts s))).run P w = .ok () (w.setRow g (splice cur o (u8s (bts s))).toArray) := by
    rw [hst]
    simp only [Nat.add_zero, splice, List.append_assoc]
  cases hq : P.info? elem with
  | none => simp [hq] at hs
  | some i =>
    have hi : i.size = 1 := by simpa [hq] using hs
    simp [Builtin.copy_, run_underlying hu, Builtin.lenOf, Builtin.firstCells, sizeOf, typeInfo, hq, hmin, hcs, hst']

theorem wpList_copy_string {P : Program} {w : World} {ops : Array Oper} {rest : List Oper} {o : Oper} {a : Act} {Q : Exit → Act → World → Prop} (hgd : o.guard = none) (d s : Operand) (dT sT : TypeId)
    (ho : o.op = .call { callee := .builtin .copy, args := #[d, s], argTypes := #[dT, sT] }) (elem : TypeId) (hu : P.underlying dT = some (.slice elem)) (hsz : (P.info? elem).map (·.size) = some 1)
    (g off dLen dCap : Nat) (str : ByteArray) (hd : a.eval d = .slice (some ⟨g, off, none⟩) dLen dCap) (hs : a.eval s = .string str)
    (cur : List Value) (t : TypeId) (hg : Bk w g t cur) (hn : str.size ≤ dLen) (hfit : off + str.size ≤ cur.length)
    (h : wpList P ops Q rest (a.put o.dst (goInt str.size)) (w.setRow g (splice cur off (u8s (bts str))).toArray)) : wpList P ops Q (o :: rest) a w := by
  refine wpList_plain hgd fun K hK => ?_
  have hrun := run_copy_string (P := P) w dT sT o.type elem g off dLen dCap str cur t hu hsz hg hn hfit
  unfold Oper.wp
  simp [execOp, ho, resolve, invoke, builtin, hd, hs, hrun, Result.andThen]
  exact hK _ _ h

theorem Try.size5 : (Try.prog.info? 5).map (·.size) = some 1 := by kernel_rfl

set_option maxHeartbeats 400000 in
/-- (*Disk).set, of a text that fits. -/
theorem set_any (d sb N off len : Nat) (lo hi : Int) (vq vo va : Value) (cur : List Value) (s : ByteArray) (w : World)
    (h1 : Bk w d 60 [.slice (some ⟨sb, 0, none⟩) N N, vq, vo, va]) (h2 : Bk w sb 5 cur) (hlen : cur.length = N) (hN : N ≤ 1000000) (hol : off + len ≤ N) (hl : 0 < len) (hs : s.size ≤ len)
    (hlo : lo = off) (hhi : hi = ((off + len : Nat) : Int)) :
    Calls Try.prog 43 #[.pointer (some ⟨d, 0, none⟩), .agg #[.int .i64 lo, .int .i64 hi], .string s] w fun e w' =>
      e = .returned (.tuple #[]) ∧ Bk w' sb 5 (splice cur off (u8s (bts s))) ∧ Mod (fun k => k = sb) w w' := by
  subst hlo
  subst hhi
  have hd := h1.lt
  have hsb := h2.lt
  have c0 := h1.cell 0
  simp only [List.getElem?_cons_zero] at c0
  obtain ⟨hi, hhi⟩ : ∃ hi : Nat, hi = off + len := ⟨_, rfl⟩
  rw [← hhi]
  have b0 : off ≤ hi := by omega
  have b2 : hi ≤ N := by omega
  have b3 : ¬ N = off := by omega
  have H1 : Hid (Bk w sb 5 cur) := h2
  have H2 : Hid (cur.length = N) := hlen
  have H3 : Hid (hi = off + len) := hhi
  clear h1 h2 hlen hhi
  go_enter Try.func43, Try.ntmps43
  go_wp2
  refine still_tail 10 (by kernel_rfl) (by kernel_rfl) ?_
  simp only [List.take_succ_cons, List.take_zero, List.drop_succ_cons, List.drop_zero]
  repeat still_step
  refine wpStill_nil ?_
  refine wpList_copy_string rfl (.tmp 14) (.tmp 15) 56 9 rfl 5 Try.underlying56 Try.size5 sb off (hi - off) (N - off) s rfl rfl cur 5 ((H1.out.alloc _).drew) (by have := H3.out; omega) (by have := H3.out; have := H2.out; omega) ?_
  go_wp2
  go_end0
  exact ⟨rfl, ((H1.out.alloc _).drew).setRow _, (((Mod.refl (fun k => k = sb) _).alloc _).drew).setRow (g := sb) (fun _ => rfl) _⟩

end Go.Proofs.Ytbioeeccbcaljaa
