/- (*Disk).Fail: the power is cut. -/
import Derived.Test.YtbioeeccbcaljaaA5
set_option linter.unusedVariables false
set_option linter.unusedSimpArgs false
namespace Go.Proofs.Ytbioeeccbcaljaa
open Go.RowKit

/-- As many as a number says, between 0 and top. -/
def clampN (x : Int) (top : Nat) : Nat := min x.toNat top

def tornSt (st : List UInt8) (q : List (Nat × ByteArray)) (n k : Nat) : List UInt8 :=
  match q[n]? with
  | some p => if 0 < k then splice st (p.1 * 64) ((bts p.2).take k) else st
  | none => st

def DK.cut (A : DK) (writes bytes : Int) : DK :=
  if A.off then A else
    { A with st := tornSt (settleL A.st (A.q.take (clampN writes A.q.length))) A.q (clampN writes A.q.length) (clampN bytes 64), q := [], off := true, arm := none }

theorem fail_nil (x y : Int) (w : World) : Calls Try.prog 25 #[.pointer none, .int .i64 x, .int .i64 y] w fun e w' => e = .returned (.tuple #[]) ∧ w' = w := by
  go_enter Try.func25, Try.ntmps25
  go_wp2
  go_returns
  exact ⟨rfl, rfl⟩

set_option maxHeartbeats 400000 in
theorem fail_off {w : World} {F : DF} {A : DK} (h : DiskAt w F A) (ho : A.off = true) (x y : Int) : Calls Try.prog 25 #[dptr F, .int .i64 x, .int .i64 y] w (VPost F (A.cut x y) w) := by
  obtain ⟨c0, c1, c2, c3, f0, f1, f2, f3, hd⟩ := h.head.four
  rw [ho] at c2
  have H : Hid (DiskAt w F A) := h
  have HO : Hid (A.off = true) := ho
  clear h ho
  go_enter Try.func25, Try.ntmps25
  go_wp2
  go_returns
  exact ⟨rfl, by rw [DK.cut, if_pos HO.out]; exact DPost.same H.out (Mod.refl _ _)⟩

theorem pendCells_take (q : List (Nat × ByteArray)) : ∀ n, pendCells (q.take n) = (pendCells q).take (n * 3) := by
  induction q with
  | nil => intro n; simp [pendCells]
  | cons p q ih =>
    intro n
    cases n with
    | zero => simp [pendCells]
    | succ n =>
      have := ih n
      rw [List.take_succ_cons, show p :: q.take n = [p] ++ q.take n from rfl, show p :: q = [p] ++ q from rfl, pendCells_append, pendCells_append, this]
      rw [List.take_append, show (pendCells [p]).length = 3 from rfl, show (n + 1) * 3 - 3 = n * 3 by omega, List.take_of_length_le (l := pendCells [p])]
      show 3 ≤ _
      omega

/-- The queue of a disk: nil, or a row. -/
theorem DiskAt.qform {w : World} {F : DF} {A : DK} (h : DiskAt w F A) :
    ∃ ao cap, F.qv = .slice ao A.q.length cap ∧ A.q.length ≤ cap ∧ (ao = none → A.q = [] ∧ cap = 0) ∧ (∀ ad, ao = some ad → ∃ g, ad = ⟨g, 0, none⟩) ∧ ∀ n, QRow w ao (A.q.take n) := by
  rcases h.queue.2 with ⟨hv, hn⟩ | ⟨g, cap, cur, hv, _, hh, hnc, _, hcs, ht⟩
  · have : A.q = [] := List.eq_nil_of_length_eq_zero hn
    refine ⟨none, 0, by rw [hv, hn], by omega, fun _ => ⟨this, rfl⟩, (fun _ h => by cases h), fun n hne => ?_⟩
    rw [this] at hne; simp at hne
  · refine ⟨some ⟨g, 0, none⟩, cap, hv, hnc, (fun h => by cases h), (fun ad h => ⟨g, by cases h; rfl⟩), fun n _ => ⟨g, cur.toList, rfl, by simpa [Bk] using hh, ?_⟩⟩
    rw [pendCells_take, ← ht, List.take_take]
    congr 1
    rw [List.length_take]
    omega

/-- The power is cut: the struct's cells and the stable bytes have been written. -/
theorem DPost.cut {w W : World} {F : DF} {A : DK} (h : DiskAt w F A) {st' : List UInt8} (hb : Bk W F.d 60 [.slice (some ⟨F.sb, 0, none⟩) (A.n * 64) (A.n * 64), .slice none 0 0, .bool true, .pointer none])
    (hst : Bk W F.sb 5 (u8s st')) (hlen : st'.length = A.n * 64) (hm : Mod (fun k => k = F.sb ∨ k = F.d) w W) : DPost F w ⟨A.n, st', [], true, none⟩ W := by
  refine ⟨⟨F.d, F.sb, .slice none 0 0, none⟩, rfl, fun k hk => .inl (DF.again_has (.inr rfl) (.inr rfl) hk), ?_, hm.mono ?_⟩
  · refine h.again hst hlen (.inr ⟨rfl, rfl⟩) (.inr ⟨rfl, rfl⟩) hb ?_
    rintro k (hk | hk)
    · exact hm.block k (own_lt h.queue hk) (by have := h.ne_q hk; rintro (e | e); exact this.2 e; exact this.1 e)
    · exact hm.block k (h.lt (.inr (.inr (.inr hk)))) (by have := h.ne_a hk; rintro (e | e); exact this.2.1 e; exact this.1 e)
  · rintro i _ (e | e)
    · exact .inr (.inl e)
    · exact .inl e

theorem DK.Ok.fits {A : DK} (h : A.Ok) (n : Nat) : ∀ p ∈ A.q.take n, p.1 * 64 + 64 ≤ A.n * 64 ∧ p.2.size = 64 := by
  intro p hp
  have := h.items p (List.mem_of_mem_take hp)
  omega

theorem settled_length {A : DK} (h : A.Ok) (n : Nat) : (settleL A.st (A.q.take n)).length = A.n * 64 := by
  rw [settleL_length, h.len]
  intro p hp
  have := h.fits n p hp
  rw [h.len]; omega

set_option maxHeartbeats 1000000 in
theorem fail_on {w : World} {F : DF} {A : DK} (h : DiskAt w F A) (ho : A.off = false) (x y : Int) : Calls Try.prog 25 #[dptr F, .int .i64 x, .int .i64 y] w (VPost F (A.cut x y) w) := by
  obtain ⟨c0, c1, c2, c3, f0, f1, f2, f3, hd⟩ := h.head.four
  rw [ho] at c2
  have H : Hid (DiskAt w F A) := h
  have HO : Hid (A.off = false) := ho
  obtain ⟨ao, cap, hqv, hcap, hnone, hsome, hrow⟩ := h.qform
  have HQ := hid_ hqv
  have HR := hid_ hrow
  have hfew := h.ok.few
  rw [hqv] at c1
  have HN := hid_ hnone
  have HS := hid_ hsome
  clear h ho hqv hrow hnone hsome
  obtain ⟨mx, hmx⟩ : ∃ mx : Int, (if x < 0 then 0 else x) = mx := ⟨_, rfl⟩
  obtain ⟨n, hn⟩ : ∃ n, n = clampN x A.q.length := ⟨_, rfl⟩
  have hmn : (if (A.q.length : Int) < mx then (A.q.length : Int) else mx) = (n : Int) := by
    rw [hn, ← hmx]; unfold clampN; split <;> split <;> omega
  have hnl : n ≤ A.q.length := by rw [hn]; exact Nat.min_le_right _ _
  have HNN := hid_ hn
  clear hn
  go_enter Try.func25, Try.ntmps25
  go_wp2_with fail
  have hst := settled_length H.out.ok n
  refine (settle_any F.d F.sb (A.n * 64) n cap ao _ _ _ A.st (A.q.take n) w H.out.head H.out.stable H.out.ok.len (by have := H.out.ok.top; omega) (HR.out n) (by rw [List.length_take]; omega) (by omega) (H.out.ok.fits n)).mono ?_
  rintro e w1 ⟨rfl, hs1, hm1⟩
  have HST := hid_ hst
  have HS1 := hid_ hs1
  have HM1 := hid_ hm1
  have hds := H.out.ne_sb
  have hd1 := hm1.bk H.out.head hds
  rw [HQ.out, HO.out] at hd1
  have HD1 := hid_ hd1
  clear c0 c1 c2 c3 f0 f1 f2 f3 hst hs1 hm1 hd hmn hmx
  obtain ⟨c0, c1, c2, c3, f0, f1, f2, f3, hd⟩ := hd1.four
  clear hd1
  by_cases hlt : n < A.q.length
  · have hrow := HR.out A.q.length
    rw [List.take_of_length_le (Nat.le_refl _)] at hrow
    obtain ⟨p, hp⟩ : ∃ p, A.q[n]? = some p := ⟨_, List.getElem?_eq_getElem hlt⟩
    obtain ⟨g, cs, hao, hbg, e0, e1, e2⟩ := hrow.cells n p hp
    have hgs : g ≠ F.sb := hbg.ne H.out.stable (by decide)
    have hgd : g ≠ F.d := hbg.ne H.out.head (by decide)
    have hbg1 := HM1.out.bk hbg hgs
    have hg := hbg1.lt
    have g0 := hbg1.cell (n * 3)
    have g1 := hbg1.cell (n * 3 + 1)
    have g2 := hbg1.cell (n * 3 + 2)
    rw [e0] at g0; rw [e1] at g1; rw [e2] at g2
    have hit := H.out.ok.items p (List.mem_of_getElem? hp)
    have HIT := hid_ hit
    have HP := hid_ hp
    subst hao
    clear hrow hbg hbg1 e0 e1 e2 hp hit
    obtain ⟨my, hmy⟩ : ∃ my : Int, (if y < 0 then 0 else y) = my := ⟨_, rfl⟩
    obtain ⟨k, hk⟩ : ∃ k, k = clampN y 64 := ⟨_, rfl⟩
    have hmk : (if 64 < my then 64 else my) = (k : Int) := by
      rw [hk, ← hmy]; unfold clampN; split <;> split <;> omega
    have hk64 : k ≤ 64 := by rw [hk]; exact Nat.min_le_right _ _
    have HK := hid_ hk
    clear hk
    go_wp2_with fail
    · have hk0 : (0 : Int) < k := by omega
      have hks : (k : Int) ≤ p.2.size := by have := HIT.out.2; omega
      clear hmy hmk
      refine still_tail 7 (by kernel_rfl) (by kernel_rfl) ?_
      simp only [List.take_succ_cons, List.take_zero, List.drop_succ_cons, List.drop_zero]
      repeat still_step
      refine wpStill_nil ?_
      go_wp2_with fail
      refine (set_any F.d F.sb (A.n * 64) (p.1 * 64) 64 _ _ _ _ _ (u8s (settleL A.st (A.q.take n))) (p.2.extract 0 k) _ ((HD1.out.alloc _).drew) ((HS1.out.alloc _).drew) (by rw [u8s_length, HST.out]) (by have := H.out.ok.top; omega) (by have := HIT.out; omega) (by omega)
        (by rw [ByteArray.size_extract]; omega) (by push_cast; rfl) (by push_cast; omega)).mono ?_
      rintro e w2 ⟨rfl, hs2, hm2⟩
      have hd2 := hm2.bk ((HD1.out.alloc _).drew) hds
      have HD2 := hid_ hd2
      have hs2' : Bk w2 F.sb 5 (u8s (tornSt (settleL A.st (A.q.take n)) A.q n k)) := by
        rw [show tornSt (settleL A.st (A.q.take n)) A.q n k = splice (settleL A.st (A.q.take n)) (p.1 * 64) ((bts p.2).take k) by simp [tornSt, HP.out, show 0 < k by omega], u8s_splice]
        have e : bts (p.2.extract 0 k) = (bts p.2).take k := by simp [bts]
        rw [← e]; exact hs2
      have HS2 := hid_ hs2'
      have HM2 := hid_ ((((HM1.out.alloc _).drew).trans hm2 (fun _ _ h => h)))
      clear hs2 hs2' hm2 c0 c1 c2 c3 f0 f1 f2 f3 hd g0 g1 g2 hg
      obtain ⟨c0, c1, c2, c3, f0, f1, f2, f3, hd⟩ := hd2.four
      clear hd2
      go_wp2
      go_returns
      refine ⟨rfl, ?_⟩
      rw [DK.cut, if_neg (by rw [HO.out]; simp), ← HNN.out, ← HK.out]
      refine DPost.cut H.out ?_ ?_ ?_ ?_
      · exact ((HD2.out.set 1 _).set 2 _).set 3 _
      · exact ((HS2.out.far (Ne.symm hds) _).far (Ne.symm hds) _).far (Ne.symm hds) _
      · rw [show tornSt (settleL A.st (A.q.take n)) A.q n k = splice (settleL A.st (A.q.take n)) (p.1 * 64) ((bts p.2).take k) by simp [tornSt, HP.out, show 0 < k by omega], length_splice, HST.out]
        rw [HST.out, List.length_take]
        have := HIT.out; omega
      · exact (((HM2.out.mono (fun _ _ h => .inl h)).setCell (fun _ => .inr rfl) _).setCell (fun _ => .inr rfl) _).setCell (fun _ => .inr rfl) _
    · have hk0 : ¬ 0 < k := by omega
      go_returns
      refine ⟨rfl, ?_⟩
      rw [DK.cut, if_neg (by rw [HO.out]; simp), ← HNN.out, ← HK.out]
      rw [show tornSt (settleL A.st (A.q.take n)) A.q n k = settleL A.st (A.q.take n) by simp [tornSt, HP.out, hk0]]
      refine DPost.cut H.out ?_ ?_ HST.out ?_
      · exact (((HD1.out.set 1 _).set 2 _).set 3 _).alloc _
      · exact (((HS1.out.far (Ne.symm hds) _).far (Ne.symm hds) _).far (Ne.symm hds) _).alloc _
      · exact ((((HM1.out.mono (fun _ _ h => .inl h)).setCell (fun _ => .inr rfl) _).setCell (fun _ => .inr rfl) _).setCell (fun _ => .inr rfl) _).alloc _
  · have hne : n = A.q.length := by omega
    go_wp2
    go_returns
    refine ⟨rfl, ?_⟩
    rw [DK.cut, if_neg (by rw [HO.out]; simp), ← HNN.out]
    have hno : A.q[n]? = none := List.getElem?_eq_none (by omega)
    rw [show tornSt (settleL A.st (A.q.take n)) A.q n (clampN y 64) = settleL A.st (A.q.take n) by simp [tornSt, hno]]
    refine DPost.cut H.out ?_ ?_ HST.out ?_
    · exact ((HD1.out.set 1 _).set 2 _).set 3 _
    · exact ((HS1.out.far (Ne.symm hds) _).far (Ne.symm hds) _).far (Ne.symm hds) _
    · exact (((HM1.out.mono (fun _ _ h => .inl h)).setCell (fun _ => .inr rfl) _).setCell (fun _ => .inr rfl) _).setCell (fun _ => .inr rfl) _

end Go.Proofs.Ytbioeeccbcaljaa
