/- The reference disk: New, and one operation on it. -/
import Derived.Test.YtbioeeccbcaljaaR6
import Derived.Deep.RegionWith
set_option linter.unusedVariables false
set_option linter.unusedSimpArgs false
namespace Go.Proofs.Ytbioeeccbcaljaa
open Go.RowKit

def GActPost (G : RF) (r : (ByteArray × Int) × DK) (w : World) (e : Ending) (w' : World) : Prop := e = .returned (.tuple #[.string r.1.1, .int .i64 r.1.2]) ∧ GPost G w r.2 w'
theorem GPost.late {w w1 w' : World} {G : RF} {A A' : DK} (hm : Mod Nothing w w1) (h : GPost G w1 A' w') : GPost G w A' w' :=
  GPost.trans rfl (fun _ h => .inl h) (hm.mono (fun _ _ => False.elim)) h

set_option maxHeartbeats 1000000 in
theorem want_sync {w : World} {G : RF} {A : DK} (h : RefAt w G A) (a : Ac) (hk : a.kind = 2) : Calls Try.prog 17 #[rptr G, a.val] w (GActPost G (A.act a) w) := by
  have H := hid_ h
  obtain ⟨kind, sector, bytes, text, odd, after⟩ := a
  simp only at hk
  subst hk
  clear h
  go_enter Try.func17, Try.ntmps17
  go_wp2_with fail
  refine (rsync_any (H.out.keep fun k hk => Below.heap_alloc _ _ _ (H.out.lt hk))).mono ?_
  rintro e w1 ⟨rfl, hp⟩
  have HP := hid_ hp
  clear hp
  go_wp2
  go_returns
  exact ⟨rfl, GPost.late (A := A) ((Mod.refl _ _).alloc _) HP.out⟩

set_option maxHeartbeats 1000000 in
theorem want_fail {w : World} {G : RF} {A : DK} (h : RefAt w G A) (a : Ac) (hk : a.kind = 3) : Calls Try.prog 17 #[rptr G, a.val] w (GActPost G (A.act a) w) := by
  have H := hid_ h
  obtain ⟨kind, sector, bytes, text, odd, after⟩ := a
  simp only at hk
  subst hk
  clear h
  go_enter Try.func17, Try.ntmps17
  go_wp2_with fail
  refine (rfail_any (H.out.keep fun k hk => Below.heap_alloc _ _ _ (H.out.lt hk)) _ _).mono ?_
  rintro e w1 ⟨rfl, hp⟩
  have HP := hid_ hp
  clear hp
  go_wp2
  go_returns
  exact ⟨rfl, GPost.late (A := A) ((Mod.refl _ _).alloc _) HP.out⟩

set_option maxHeartbeats 1000000 in
theorem want_start {w : World} {G : RF} {A : DK} (h : RefAt w G A) (a : Ac) (hk : a.kind = 4) : Calls Try.prog 17 #[rptr G, a.val] w (GActPost G (A.act a) w) := by
  have H := hid_ h
  obtain ⟨kind, sector, bytes, text, odd, after⟩ := a
  simp only at hk
  subst hk
  clear h
  go_enter Try.func17, Try.ntmps17
  go_wp2_with fail
  refine (rstart_any (H.out.keep fun k hk => Below.heap_alloc _ _ _ (H.out.lt hk))).mono ?_
  rintro e w1 ⟨rfl, hp⟩
  have HP := hid_ hp
  clear hp
  go_wp2
  go_returns
  exact ⟨rfl, GPost.late (A := A) ((Mod.refl _ _).alloc _) HP.out⟩

set_option maxHeartbeats 1000000 in
theorem want_arm {w : World} {G : RF} {A : DK} (h : RefAt w G A) (a : Ac) (hk : a.kind = 5) (ha : a.after ≤ 9223372036854775807) : Calls Try.prog 17 #[rptr G, a.val] w (GActPost G (A.act a) w) := by
  have H := hid_ h
  obtain ⟨kind, sector, bytes, text, odd, after⟩ := a
  simp only at hk ha
  subst hk
  clear h
  go_enter Try.func17, Try.ntmps17
  go_wp2_with fail
  refine (rarm_any (H.out.keep fun k hk => Below.heap_alloc _ _ _ (H.out.lt hk)) _ _ _ ha).mono ?_
  rintro e w1 ⟨rfl, hp⟩
  have HP := hid_ hp
  clear hp
  go_wp2
  go_returns
  exact ⟨rfl, GPost.late (A := A) ((Mod.refl _ _).alloc _) HP.out⟩

set_option maxHeartbeats 1000000 in
theorem want_rot {w : World} {G : RF} {A : DK} (h : RefAt w G A) (a : Ac) (hk : a.kind = 6) : Calls Try.prog 17 #[rptr G, a.val] w (GActPost G (A.act a) w) := by
  have H := hid_ h
  obtain ⟨kind, sector, bytes, text, odd, after⟩ := a
  simp only at hk
  subst hk
  clear h
  go_enter Try.func17, Try.ntmps17
  go_wp2_with fail
  refine (rrot_any (H.out.keep fun k hk => Below.heap_alloc _ _ _ (H.out.lt hk)) _ _ _).mono ?_
  rintro e w1 ⟨rfl, hp⟩
  have HP := hid_ hp
  clear hp
  go_wp2
  go_returns
  exact ⟨rfl, GPost.late (A := A) ((Mod.refl _ _).alloc _) HP.out⟩

set_option maxHeartbeats 1000000 in
theorem want_read {w : World} {G : RF} {A : DK} (h : RefAt w G A) (a : Ac) (hk : a.kind = 1) : Calls Try.prog 17 #[rptr G, a.val] w (GActPost G (A.act a) w) := by
  have H := hid_ h
  obtain ⟨kind, sector, bytes, text, odd, after⟩ := a
  simp only at hk
  subst hk
  clear h
  go_enter Try.func17, Try.ntmps17
  go_wp2_with fail
  refine (rread_any (H.out.keep fun k hk => Below.heap_alloc _ _ _ (H.out.lt hk)) _).mono ?_
  rintro e w1 ⟨rfl, hm⟩
  have HM := hid_ hm
  clear hm
  go_wp2
  go_returns
  exact ⟨rfl, GPost.same H.out (((Mod.refl _ _).alloc _).trans HM.out (fun _ _ h => h))⟩

set_option maxHeartbeats 1000000 in
theorem want_raw {w : World} {G : RF} {A : DK} (h : RefAt w G A) (a : Ac) (hk : a.kind = 7) : Calls Try.prog 17 #[rptr G, a.val] w (GActPost G (A.act a) w) := by
  have H := hid_ h
  obtain ⟨kind, sector, bytes, text, odd, after⟩ := a
  simp only at hk
  subst hk
  clear h
  go_enter Try.func17, Try.ntmps17
  go_wp2_with fail
  refine (rraw_any (H.out.keep fun k hk => Below.heap_alloc _ _ _ (H.out.lt hk))).mono ?_
  rintro e w1 ⟨rfl, hm⟩
  have HM := hid_ hm
  clear hm
  go_wp2
  go_returns
  exact ⟨rfl, GPost.same H.out (((Mod.refl _ _).alloc _).trans HM.out (fun _ _ h => h))⟩

set_option maxHeartbeats 1000000 in
theorem want_other {w : World} {G : RF} {A : DK} (h : RefAt w G A) (a : Ac) (h0 : a.kind ≠ 0) (h1 : a.kind ≠ 1) (h2 : a.kind ≠ 2) (h3 : a.kind ≠ 3) (h4 : a.kind ≠ 4) (h5 : a.kind ≠ 5) (h6 : a.kind ≠ 6) (h7 : a.kind ≠ 7) :
    Calls Try.prog 17 #[rptr G, a.val] w (GActPost G (A.act a) w) := by
  have H := hid_ h
  have HE := hid_ (show A.act a = ((⟨#[]⟩, 0), A) by simp [DK.act, *])
  obtain ⟨kind, sector, bytes, text, odd, after⟩ := a
  simp only at h0 h1 h2 h3 h4 h5 h6 h7
  have k0 : (kind == 0) = false := beq_eq_false_iff_ne.2 h0
  have k1 : (kind == 1) = false := beq_eq_false_iff_ne.2 h1
  have k2 : (kind == 2) = false := beq_eq_false_iff_ne.2 h2
  have k3 : (kind == 3) = false := beq_eq_false_iff_ne.2 h3
  have k4 : (kind == 4) = false := beq_eq_false_iff_ne.2 h4
  have k5 : (kind == 5) = false := beq_eq_false_iff_ne.2 h5
  have k6 : (kind == 6) = false := beq_eq_false_iff_ne.2 h6
  have k7 : (kind == 7) = false := beq_eq_false_iff_ne.2 h7
  clear h h0 h1 h2 h3 h4 h5 h6 h7
  go_enter Try.func17, Try.ntmps17
  go_wp2
  go_returns
  rw [HE.out]
  exact ⟨rfl, GPost.same H.out ((Mod.refl _ _).alloc _)⟩

set_option maxHeartbeats 2000000 in
theorem want_write {w : World} {G : RF} {A : DK} (h : RefAt w G A) (a : Ac) (hk : a.kind = 0) (ht : a.text.size ≤ 1000) (hfew : A.q.length < 1000000) : Calls Try.prog 17 #[rptr G, a.val] w (GActPost G (A.act a) w) := by
  have H := hid_ h
  have HE := hid_ (show A.act a = ((⟨#[]⟩, (A.write a.sector a.txt).1), (A.write a.sector a.txt).2) by rw [DK.act, if_pos hk])
  obtain ⟨X, hX⟩ : ∃ X, X = a.txt := ⟨_, rfl⟩
  have hcall : ∀ w, Calls Try.prog 24 #[a.val] w (TextPost X w) := fun w => by rw [hX]; exact text_any a w ht
  rw [← hX] at HE
  have HC := hid_ hcall
  obtain ⟨kind, sector, bytes, text, odd, after⟩ := a
  simp only at hk
  subst hk
  clear h hX hcall ht
  go_enter Try.func17, Try.ntmps17
  go_wp2_with fail
  go_region_with (first
    | (go_at_call 24; refine (HC.out _).mono ?_; rintro e w1 ⟨rfl, hm1⟩; have c1 := (hm1.bk (Bk.new w 34 [.int .i64 0, .int .i64 sector, .int .i64 bytes, .string text, .bool odd, .int .i64 after]) id).cell 1; have HM1 := hid_ hm1; clear hm1)
    | (go_at_call 33; refine (rwrite_any (A := A) (G := G) (H.out.mod ((((Mod.refl _ _).alloc _).drew).trans HM1.out (fun _ _ h => h)) (fun _ _ => id)) _ _ hfew).mono ?_; rintro e w2 ⟨rfl, hp⟩; have HP := hid_ hp; clear hp))
  all_goals
    go_wp2
    go_returns
    rw [HE.out]
    exact ⟨rfl, GPost.late (A := A) ((((Mod.refl _ _).alloc _).drew).trans HM1.out (fun _ _ h => h)) HP.out⟩

theorem want_any {w : World} {G : RF} {A : DK} (h : RefAt w G A) (a : Ac) (ht : a.text.size ≤ 1000) (ha : a.after ≤ 9223372036854775807) (hfew : A.q.length < 1000000) : Calls Try.prog 17 #[rptr G, a.val] w (GActPost G (A.act a) w) := by
  by_cases h0 : a.kind = 0
  · exact want_write h a h0 ht hfew
  by_cases h1 : a.kind = 1
  · exact want_read h a h1
  by_cases h2 : a.kind = 2
  · exact want_sync h a h2
  by_cases h3 : a.kind = 3
  · exact want_fail h a h3
  by_cases h4 : a.kind = 4
  · exact want_start h a h4
  by_cases h5 : a.kind = 5
  · exact want_arm h a h5 ha
  by_cases h6 : a.kind = 6
  · exact want_rot h a h6
  by_cases h7 : a.kind = 7
  · exact want_raw h a h7
  exact want_other h a h0 h1 h2 h3 h4 h5 h6 h7


/-! ### New -/
theorem DK.new_secs (n : Nat) : (DK.new n).secs = List.replicate n (zeros 64) := by
  apply List.ext_getElem?
  intro k
  unfold DK.secs
  show ((List.range n).map _)[k]? = _
  by_cases hk : k < n
  · rw [List.getElem?_map, List.getElem?_range hk, List.getElem?_replicate, if_pos hk]
    simp only [Option.map_some, DK.sec, zeros]
    congr 2
    show (((List.replicate (n * 64) 0).drop (k * 64)).take 64).toArray = _
    rw [List.drop_replicate, List.take_replicate, Nat.min_eq_left (by omega)]
  · rw [List.getElem?_eq_none (by simp; omega), List.getElem?_eq_none (by simp; omega)]

set_option maxHeartbeats 1000000 in
theorem rnew_any (n : Nat) (w : World) (h1 : 1 ≤ n) (h2 : n ≤ 8000) : Calls Try.prog 15 #[.int .i64 (n : Int)] w fun e w' => ∃ G : RF, e = .returned (rptr G) ∧ (∀ k, G.has k → w.heap.size ≤ k) ∧ RefAt w' G (DK.new n) ∧ Mod Nothing w w' := by
  obtain ⟨i0, hi0, hz0, hz1, hz2⟩ := info_parts Try.info9
  have HI0 := hid_ hi0
  have HZ0 := hid_ hz0
  have HZ1 := hid_ hz1
  have HZ2 := hid_ hz2
  clear hi0 hz0 hz1 hz2
  go_enter Try.func15, Try.ntmps15
  go_wp2_with fail
  refine (rzero_any 64 (by decide) _).mono ?_
  rintro e w' ⟨rfl, rfl⟩
  obtain ⟨Z, hZ⟩ : ∃ Z, Z = zeros 64 := ⟨_, rfl⟩
  rw [← hZ]
  have HZ := hid_ hZ
  clear hZ
  go_wp2_with fail
  go_loopw [5] (fun i wr => ∃ k : Nat, k ≤ n ∧ i = .int .i64 k ∧ ∃ v, Bk wr w.heap.size 63 [v, .slice none 0 0, .bool true, .bool false, .int .i64 0, .int .i64 0, .int .i64 0] ∧ wr.ownsRow w.heap.size 9 1 v k (strV (List.replicate k Z)) ∧ Mod Nothing w wr) (fun i _ => n - (intOf i).toNat)
  case atStart => exact ⟨0, Nat.zero_le _, rfl, _, Bk.new _ _ _, World.ownsRow_nil _ _ _ _, (Mod.refl _ _).alloc _⟩
  case round =>
    obtain ⟨k, hk, rfl, v, hb, hown, hm⟩ := hrel
    have HB := hid_ hb
    have HOWN := hid_ hown
    have HM := hid_ hm
    obtain ⟨c0, c1, c2, c3, c4, c5, c6, f0, f1, f2, f3, f4, f5, f6, hd⟩ := hb.seven
    clear hb hown hm c1 c2 c3 c4 c5 c6 f1 f2 f3 f4 f5 f6
    by_cases hlt : k < n
    · have hdq : some w.heap.size ≠ v.ownBlock := fun e => own_ne HOWN.out e.symm HB.out (by decide) rfl
      go_wp2_with (at_builtin; refine wpList_append_lies _ rfl (.tmp 24) (.tmp 26) 39 rfl w.heap.size 9 i0 _ 1 16 Try.underlying39 HI0.out HZ0.out HZ1.out HZ2.out rfl (by decide) v k (strV (List.replicate k Z)) rfl (HOWN.out.alloc _) ⟨wr.heap.size, 0, none⟩ 1 1 [.string Z] rfl rfl (World.news_of_block (cs := #[.string Z]) (t := 9) (fr := (0, 0)) (heap_alloc_new wr _)) (by simp [Value.oneCell']) (by decide) (by unfold maxLen; omega) (by omega) (by have h1 := HM.out.size; simp; omega) (wr.heap.size + 1) (by simp) ?_)
      intro g cap w2 hown2 hgrow2 hat2 hlt2
      have e : strV (List.replicate k Z) ++ [.string Z] = strV (List.replicate (k + 1) Z) := by rw [List.replicate_succ']; simp [strV]
      rw [e] at hown2
      have hd2 : Bk w2 w.heap.size 63 _ := (hgrow2.block _ (by simp; omega) hdq).trans ((Below.heap_alloc _ _ _ hd).trans HB.out)
      have c0' := hd2.cell 0
      have f0' := hd2.frozen 0
      have hlt0 := hd2.lt
      simp only [List.getElem?_cons_zero] at c0'
      have HD2 := hid_ hd2
      have HOWN2 := hid_ hown2
      have HM2 := hid_ ((HM.out.alloc _).grown hgrow2 (fun g' hg' hl => absurd hl (by have := own_ge HOWN.out hg'; omega)))
      clear hown2 hgrow2 hat2 hlt2 e hd2 c0 f0
      go_wp2
      go_roundw
      case rel => exact ⟨k + 1, by omega, by go_num, _, HD2.out.set 0 _, own_keep HOWN2.out (fun g' hg' => Below.heap_setCell _ _ _ _ (own_ne HOWN2.out hg' HD2.out (by decide))), HM2.out.setNew (Nat.le_refl _) _⟩
      case measure => simp [intOf]; omega
    · have hkn : k = n := by omega
      subst hkn
      go_wp2
      go_returns
      obtain ⟨g, cap, hv, hg, _⟩ := HOWN.out.form (by omega)
      have hown := HOWN.out
      have hb := HB.out
      subst hv
      rw [HZ.out] at hown
      refine ⟨⟨w.heap.size, g, cap, .slice none 0 0, 0, 0, 0⟩, rfl, ?_, ⟨hb, ?_, World.ownsRow_nil _ _ _ _, (fun _ _ _ e => by cases e), DK.new_ok k h1 h2⟩, HM.out⟩
      · rintro j (rfl | rfl | hj)
        · exact Nat.le_refl _
        · exact hg
        · cases hj
      · rw [DK.new_secs]
        unfold StrsAt
        rw [List.length_replicate]
        exact own_base hown

end Go.Proofs.Ytbioeeccbcaljaa
