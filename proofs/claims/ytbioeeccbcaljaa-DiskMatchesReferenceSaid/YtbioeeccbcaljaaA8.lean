/- (*Disk).Write. -/
import Derived.Test.YtbioeeccbcaljaaA7
import Derived.Deep.RegionLaw
import Derived.Deep.AppendLies
set_option linter.unusedVariables false
set_option linter.unusedSimpArgs false
namespace Go.Proofs.Ytbioeeccbcaljaa
open Go.RowKit

def DK.push (A : DK) (i : Nat) (t : ByteArray) : DK := { A with q := A.q ++ [(i, t)] }
def DK.write (A : DK) (s : Int) (t : ByteArray) : Int × DK :=
  if A.off then (22, A) else if 0 ≤ s ∧ s < A.n then if t.size = 64 then (A.push s.toNat t).count else (1, A) else (1, A)

theorem Try.info70 : (Try.prog.info? 70).map (fun i => (i.zero, i.size, i.bytes)) = some (some (.agg #[.int .i64 0, .int .i64 0, .string ⟨#[]⟩]), 3, 32) := by kernel_rfl

theorem write_nil (s : Int) (t : ByteArray) (w : World) : Calls Try.prog 23 #[.pointer none, .int .i64 s, .string t] w fun e w' => e = .returned (.int .i64 1) ∧ Mod Nothing w w' := by
  go_enter Try.func23, Try.ntmps23
  go_wp2_with fail
  refine (at_nil s w).mono ?_
  rintro e w1 ⟨rfl, hm⟩
  have HM := hid_ hm
  clear hm
  go_wp2
  go_returns
  exact ⟨rfl, HM.out.alloc _⟩

set_option maxHeartbeats 1000000 in
theorem write_bad {w : World} {F : DF} {A : DK} (h : DiskAt w F A) (ho : A.off = false) (s : Int) (t : ByteArray) (hs : s < 0 ∨ (A.n : Int) ≤ s) : Calls Try.prog 23 #[dptr F, .int .i64 s, .string t] w (IPost F (1, A) w) := by
  have H := hid_ h
  have HO := hid_ ho
  have HS := hid_ hs
  clear h ho hs
  go_enter Try.func23, Try.ntmps23
  go_wp2_with fail
  refine (at_no H.out HO.out s HS.out).mono ?_
  rintro e w1 ⟨rfl, hm⟩
  have HM := hid_ hm
  clear hm
  go_wp2
  go_returns
  exact ⟨rfl, DPost.same H.out (HM.out.alloc _)⟩

theorem write_off {w : World} {F : DF} {A : DK} (h : DiskAt w F A) (ho : A.off = true) (s : Int) (t : ByteArray) : Calls Try.prog 23 #[dptr F, .int .i64 s, .string t] w (IPost F (22, A) w) := by
  have H := hid_ h
  have HO := hid_ ho
  clear h ho
  go_enter Try.func23, Try.ntmps23
  go_wp2_with fail
  refine (at_off H.out HO.out s).mono ?_
  rintro e w1 ⟨rfl, hm⟩
  have HM := hid_ hm
  clear hm
  go_wp2
  go_returns
  exact ⟨rfl, DPost.same H.out (HM.out.alloc _)⟩

set_option maxHeartbeats 1000000 in
theorem write_long {w : World} {F : DF} {A : DK} (h : DiskAt w F A) (ho : A.off = false) (i : Nat) (hi : i < A.n) (t : ByteArray) (ht : t.size ≠ 64) : Calls Try.prog 23 #[dptr F, .int .i64 (i : Int), .string t] w (IPost F (1, A) w) := by
  have H := hid_ h
  have HO := hid_ ho
  have hne : ((t.size : Int) != 64) = true := by rw [bne_iff_ne]; omega
  clear h ho ht
  go_enter Try.func23, Try.ntmps23
  go_wp2_with fail
  refine (at_yes H.out HO.out i hi).mono ?_
  rintro e w1 ⟨rfl, hm⟩
  have HM := hid_ hm
  clear hm
  go_wp2
  go_returns
  exact ⟨rfl, DPost.same H.out (HM.out.alloc _)⟩

/-- One pending write more: the row has grown, and the struct's cell has been written. -/
theorem DiskAt.pushed {w1 W w2 : World} {F : DF} {A : DK} (h : DiskAt w1 F A) {i : Nat} (hi : i < A.n) {t : ByteArray} (ht : t.size = 64) (hfew : A.q.length < 1000000) {gg cap : Nat}
    (hW : ∀ k, k < w1.heap.size → W.heap[k]? = w1.heap[k]?) (hWs : W.heap.size = w1.heap.size + 2) (hgrow : W.grownBy w2 F.qv.ownBlock)
    (hown : w2.ownsRow 0 70 3 (.slice (some ⟨gg, 0, none⟩) (A.q.length + 1) cap) (A.q.length + 1) (pendCells A.q ++ [.int .i64 ((i : Int) * 64), .int .i64 (((i : Int) + 1) * 64), .string t])) :
    DiskAt (w2.setCell ⟨F.d, 1, none⟩ (.slice (some ⟨gg, 0, none⟩) (A.q.length + 1) cap)) ⟨F.d, F.sb, .slice (some ⟨gg, 0, none⟩) (A.q.length + 1) cap, F.av⟩ (A.push i t) := by
  have old : ∀ k, k < w1.heap.size → F.qv.ownBlock ≠ some k → w2.heap[k]? = w1.heap[k]? := fun k hk hn => (hgrow.block k (by omega) (Ne.symm hn)).trans (hW k hk)
  have hd2 : Bk w2 F.d 60 _ := (old _ h.head.lt (fun e => (h.ne_q e).1 rfl)).trans h.head
  have hs2 : Bk w2 F.sb 5 _ := (old _ h.stable.lt (fun e => (h.ne_q e).2 rfl)).trans h.stable
  have e : pendCells A.q ++ [.int .i64 ((i : Int) * 64), .int .i64 (((i : Int) + 1) * 64), .string t] = pendCells (A.push i t).q := by
    rw [DK.push, pendCells_append]; simp [pendCells]
  refine ⟨hd2.set 1 _, hs2.far (Ne.symm h.ne_sb) _, ?_, h.noarm, ?_, ⟨h.ok.len, h.ok.pos, h.ok.top, ?_, ?_, h.ok.lo, h.ok.hi⟩⟩
  · rw [e] at hown
    have : (A.push i t).q.length = A.q.length + 1 := by simp [DK.push]
    rw [this]
    exact own_keep hown fun k hk => Below.heap_setCell _ _ _ _ (own_ne hown hk hd2 (by decide))
  · intro a x y ha
    obtain ⟨g, hg, hb⟩ := h.armed a x y ha
    have hn := h.ne_a hg
    exact ⟨g, hg, (show Bk w2 g 76 _ from (old g hb.lt hn.2.2).trans hb).far hn.1 _⟩
  · intro p hp
    rcases List.mem_append.1 hp with hp | hp
    · exact h.ok.items p hp
    · simp at hp; subst hp; exact ⟨hi, ht⟩
  · simp [DK.push]; omega

theorem DPost.pushed {w1 W w2 : World} {F : DF} {A : DK} (h : DiskAt w1 F A) {i : Nat} {t : ByteArray} {gg cap : Nat} {r : Int × DK} {w3 : World}
    (hWm : Mod Nothing w1 W) (hWs : W.heap.size = w1.heap.size + 2) (hgrow : W.grownBy w2 F.qv.ownBlock) (hat : F.qv.ownBlock = some gg ∨ gg = w1.heap.size + 2)
    (hp : DPost ⟨F.d, F.sb, .slice (some ⟨gg, 0, none⟩) (A.q.length + 1) cap, F.av⟩ (w2.setCell ⟨F.d, 1, none⟩ (.slice (some ⟨gg, 0, none⟩) (A.q.length + 1) cap)) r.2 w3) : DPost F w1 r.2 w3 := by
  refine DPost.trans (F1 := ⟨F.d, F.sb, .slice (some ⟨gg, 0, none⟩) (A.q.length + 1) cap, F.av⟩) rfl ?_ ?_ hp
  · rintro k (hk | hk | hk | hk)
    · exact .inl (.inl hk)
    · exact .inl (.inr (.inl hk))
    · have hk' : gg = k := by simpa [Value.ownBlock] using hk
      subst hk'
      rcases hat with hat | hat
      · exact .inl (.inr (.inr (.inl hat)))
      · exact .inr (by omega)
    · exact .inl (.inr (.inr (.inr hk)))
  · exact ((hWm.mono (fun _ _ => False.elim)).grown hgrow (fun k hk _ => .inr (.inr (.inl hk)))).setCell (fun _ => .inl rfl) _

set_option maxHeartbeats 1000000 in
theorem write_go {w : World} {F : DF} {A : DK} (h : DiskAt w F A) (ho : A.off = false) (i : Nat) (hi : i < A.n) (t : ByteArray) (ht : t.size = 64) (hfew : A.q.length < 1000000) : Calls Try.prog 23 #[dptr F, .int .i64 (i : Int), .string t] w (IPost F (A.push i t).count w) := by
  have H := hid_ h
  have HO := hid_ ho
  have hne : ((t.size : Int) != 64) = false := by rw [ht]; rfl
  have HT := hid_ ht
  clear h ho ht
  go_enter Try.func23, Try.ntmps23
  go_wp2_with fail
  refine (at_yes H.out HO.out i hi).mono ?_
  rintro e w1 ⟨rfl, hm⟩
  have HM := hid_ hm
  have h1 := H.out.mod hm (fun _ _ => id)
  have H1 := hid_ h1
  clear hm
  obtain ⟨c0, c1, c2, c3, f0, f1, f2, f3, hd⟩ := h1.head.four
  obtain ⟨i0, hi0, hz0, hz1, hz2⟩ := info_parts Try.info70
  have HI0 := hid_ hi0
  have HZ0 := hid_ hz0
  have HZ1 := hid_ hz1
  have HZ2 := hid_ hz2
  clear h1 hi0 hz0 hz1 hz2
  go_wp2_with fail
  have hq1 := (H1.out.ne_q (k := F.d))
  have hdq : some F.d ≠ F.qv.ownBlock := fun e => (hq1 e.symm).1 rfl
  clear hq1
  go_region_law ((refine step_append_lies _ (by rfl) (.tmp 25) (.tmp 29) 57 (by rfl) 0 70 i0 _ 3 32 Try.underlying57 HI0.out HZ0.out HZ1.out HZ2.out rfl (by omega) F.qv A.q.length (pendCells A.q) (by rfl) (by exact (((H1.out.queue.alloc _).alloc _).drew)) ⟨w1.heap.size + 1, 0, none⟩ 1 1 [.int .i64 ((i : Int) * 64), .int .i64 (((i : Int) + 1) * 64), .string t] (by rfl) (by rfl) (World.news_of_block (cs := #[.int .i64 ((i : Int) * 64), .int .i64 (((i : Int) + 1) * 64), .string t]) (t := 70) (fr := (0, 0)) (by exact heap_alloc2_new w1 _ _)) (by simp [Value.oneCell']) (by omega) (by unfold maxLen; omega) (by omega) (by omega) (w1.heap.size + 2) (by simp) ?_); intro gg cap w2 hown2 hgrow2 hat2 hlt2; have c1' := (hgrow2.cell_far ⟨F.d, 1, none⟩ (by simp; omega) hdq).trans (show _ = some F.qv by simp [go_sem, c1, hd]); have f1' := (hgrow2.frozen_far ⟨F.d, 1, none⟩ (by simp; omega) hdq).trans (show _ = false by simp [go_sem, f1, hd]))
  all_goals
    have hWm : Mod Nothing w1 (((w1.alloc (.cells #[.int .i64 ((i : Int) * 64), .int .i64 (((i : Int) + 1) * 64)] 66)).alloc (.cells #[.int .i64 ((i : Int) * 64), .int .i64 (((i : Int) + 1) * 64), .string t] 70)).drew) := (((Mod.refl _ _).alloc _).alloc _).drew
    have hWs : (((w1.alloc (.cells #[.int .i64 ((i : Int) * 64), .int .i64 (((i : Int) + 1) * 64)] 66)).alloc (.cells #[.int .i64 ((i : Int) * 64), .int .i64 (((i : Int) + 1) * 64), .string t] 70)).drew).heap.size = w1.heap.size + 2 := by simp
    have HD := hid_ (H1.out.pushed hi HT.out hfew (fun k hk => hWm.block k hk id) hWs hgrow2 hown2)
    have HP := hid_ (fun (r : Int × DK) (w3 : World) (hp : DPost ⟨F.d, F.sb, .slice (some ⟨gg, 0, none⟩) (A.q.length + 1) cap, F.av⟩ (w2.setCell ⟨F.d, 1, none⟩ (.slice (some ⟨gg, 0, none⟩) (A.q.length + 1) cap)) r.2 w3) => DPost.pushed (t := t) (i := i) (cap := cap) (r := r) (w3 := w3) H1.out hWm hWs hgrow2 hat2 hp)
    clear hWm hWs hgrow2 hown2 hat2 c0 c1 c2 c3 f0 f1 f2 f3 hd c1' f1' hdq
    go_wp2_with fail
    refine (count_any HD.out).mono ?_
    rintro e w3 ⟨rfl, hp⟩
    have HP3 := hid_ (HP.out _ _ hp)
    clear hp
    go_wp2
    go_returns
    exact ⟨rfl, DPost.trans rfl (fun _ h => .inl h) (HM.out.mono (fun _ _ => False.elim)) HP3.out⟩

theorem write_any {w : World} {F : DF} {A : DK} (h : DiskAt w F A) (s : Int) (t : ByteArray) (hfew : A.q.length < 1000000) : Calls Try.prog 23 #[dptr F, .int .i64 s, .string t] w (IPost F (A.write s t) w) := by
  cases ho : A.off with
  | true => rw [DK.write, if_pos ho]; exact write_off h ho s t
  | false =>
    rw [DK.write, if_neg (by rw [ho]; simp)]
    by_cases hs : 0 ≤ s ∧ s < A.n
    · rw [if_pos hs]
      obtain ⟨i, rfl⟩ := Int.eq_ofNat_of_zero_le hs.1
      by_cases ht : t.size = 64
      · rw [if_pos ht]
        exact write_go h ho i (by omega) t ht hfew
      · rw [if_neg ht]
        exact write_long h ho i (by omega) t ht
    · rw [if_neg hs]
      exact write_bad h ho s t (by omega)

end Go.Proofs.Ytbioeeccbcaljaa
