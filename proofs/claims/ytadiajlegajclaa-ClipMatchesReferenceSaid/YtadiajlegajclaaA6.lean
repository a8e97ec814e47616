/- slices.Clone at points; Line's closure 'end'. -/
import Derived.Test.YtadiajlegajclaaA5
import Derived.Deep.AppendLies
import Derived.Deep.OwnRows
set_option linter.unusedVariables false
set_option linter.unusedSimpArgs false
namespace Go.Proofs.Ytadiajlegajclaa
open Go.RowKit

theorem Try.info24 : (Try.prog.info? 24).map (fun i => (i.zero, i.size, i.bytes)) = some (some (.agg #[.int .i64 0, .int .i64 0]), 2, 16) := by kernel_rfl
theorem Try.info22 : (Try.prog.info? 22).map (fun i => (i.zero, i.size, i.bytes)) = some (some (.slice none 0 0), 1, 24) := by kernel_rfl

theorem ptCells_one (l : List Pt) : ∀ u ∈ ptCells l, u.oneCell' = true := by
  intro u hu
  simp only [ptCells, List.mem_flatMap] at hu
  obtain ⟨p, _, hp⟩ := hu
  simp at hp
  rcases hp with rfl | rfl <;> rfl

theorem run_pts_nil (w : World) (a : Option Addr) (n c : Nat) : (binOp .eql 22 (.slice a n c) (.slice none 0 0)).run Try.prog w = .ok (.bool a.isNone) w := by
  have h := Go.Lib.run_equalIn_slice_nil (P := Try.prog) w 9999 22 24 a n c 0 0 Try.underlying22
  simp only [binOp]
  simp [Op.equal, Op.maxDepth, h]

set_option maxHeartbeats 400000 in
theorem clone_any {w : World} {v : Value} {l : List Pt} (h : OwnPts w v l) (hs : l.length ≤ 1000000) : Calls Try.prog 38 #[v] w fun e w' => ∃ v', e = .returned v' ∧ OwnPts w' v' l ∧ (∀ k, v'.ownBlock = some k → w.heap.size ≤ k) ∧ Mod Nothing w w' := by
  rcases h.2 with ⟨rfl, hn⟩ | ⟨g, cap, cur, rfl, hb, hh, hnc, hcm, hcs, ht⟩
  · have hq := run_pts_nil
    go_enter Try.func38, Try.ntmps38
    go_wp2
    go_returns
    exact ⟨_, rfl, h, (fun _ h => by cases h), Mod.refl _ _⟩
  · obtain ⟨i0, hi0, hz0, hz1, hz2⟩ := info_parts Try.info24
    have HI0 := hid_ hi0
    have HZ0 := hid_ hz0
    have HZ1 := hid_ hz1
    have HZ2 := hid_ hz2
    clear hi0 hz0 hz1 hz2
    have H := hid_ h
    have hnews : ∀ j u, (ptCells l)[j]? = some u → (w.alloc (.cells #[] 24)).cell? ((⟨g, 0, none⟩ : Addr).add j) = some u := by
      intro j u hu
      have hadd : (⟨g, 0, none⟩ : Addr).add j = ⟨g, j, none⟩ := by unfold Addr.add; split <;> simp_all
      have hlt : g < w.heap.size := lt_of_block hh
      have hj : j < l.length * 2 := by have := (List.getElem?_eq_some_iff.1 hu).1; rw [ptCells_length] at this; exact this
      rw [hadd, World.cell?_alloc_lt _ _ _ hlt, cell_of_row w g j cur 24 (0, 0) hh]
      rw [← ht, List.getElem?_take_of_lt hj] at hu
      simpa using hu
    have HN := hid_ hnews
    have hlen := ptCells_length l
    have HL := hid_ hlen
    have hsz : w.heap.size ≤ (w.alloc (.cells #[] 24)).heap.size := by simp
    have hq := run_pts_nil
    clear h hnews hlen hb hh hnc hcm hcs ht
    go_enter Try.func38, Try.ntmps38
    go_wp2_with (at_builtin; refine wpList_append_own _ rfl (.tmp 5) (.tmp 6) 22 rfl w.heap.size 24 i0 _ 2 16 Try.underlying22 HI0.out HZ0.out HZ1.out HZ2.out rfl (by decide) (.slice (some ⟨w.heap.size, 0, none⟩) 0 0) 0 [] rfl (World.ownsRow_lit (size := 2) w #[] 0 (Nat.le_refl _) (by decide) rfl) ⟨g, 0, none⟩ l.length cap (ptCells l) rfl HL.out HN.out (ptCells_one l) (by unfold maxLen; omega) (by omega) (by simp) ?_)
    intro v' w' hown hgrow _
    have HO := hid_ hown
    have HM := hid_ (((Mod.refl Nothing w).alloc (.cells #[] 24)).grown hgrow (fun k hk hl => by simp [Value.ownBlock] at hk; omega))
    clear hown hgrow hsz
    go_wp2
    go_returns
    exact ⟨_, rfl, own_base HO.out, fun k hk => own_ge HO.out hk, HM.out⟩

/-- A slice of slices of points, all of it within S. -/
def PartsAt (w : World) (S : Nat → Prop) (v : Value) (ls : List (List Pt)) : Prop :=
  ∃ vs : List Value, w.ownsRow 0 22 1 v vs.length vs ∧ vs.length = ls.length ∧ (∀ k, v.ownBlock = some k → S k) ∧
    ∀ (i : Nat) (u : Value) (l : List Pt), vs[i]? = some u → ls[i]? = some l → OwnPts w u l ∧ (∀ k, u.ownBlock = some k → S k) ∧ u.oneCell' = true
theorem PartsAt.mono {w : World} {S S' : Nat → Prop} {v : Value} {ls : List (List Pt)} (h : PartsAt w S v ls) (hS : ∀ k, k < w.heap.size → S k → S' k) : PartsAt w S' v ls := by
  obtain ⟨vs, ho, hl, hb, hp⟩ := h
  exact ⟨vs, ho, hl, fun k hk => hS k (own_lt ho hk) (hb k hk), fun i u l hu hi => ⟨(hp i u l hu hi).1, fun k hk => hS k (own_lt (hp i u l hu hi).1 hk) ((hp i u l hu hi).2.1 k hk), (hp i u l hu hi).2.2⟩⟩
theorem PartsAt.mod {w w' : World} {S T : Nat → Prop} {v : Value} {ls : List (List Pt)} (h : PartsAt w S v ls) (hm : Mod T w w') (hT : ∀ k, S k → ¬ T k) : PartsAt w' S v ls := by
  obtain ⟨vs, ho, hl, hb, hp⟩ := h
  exact ⟨vs, own_keep ho fun k hk => hm.block k (own_lt ho hk) (hT k (hb k hk)), hl, hb, fun i u l hu hi =>
    ⟨own_keep (hp i u l hu hi).1 fun k hk => hm.block k (own_lt (hp i u l hu hi).1 hk) (hT k ((hp i u l hu hi).2.1 k hk)), (hp i u l hu hi).2⟩⟩
theorem PartsAt.nil (w : World) (S : Nat → Prop) : PartsAt w S (.slice none 0 0) [] := ⟨[], World.ownsRow_nil _ _ _ _, rfl, fun k hk => by simp [Value.ownBlock] at hk, fun i u l hu _ => by simp at hu⟩

theorem PartsAt.far {w : World} {S : Nat → Prop} {v : Value} {ls : List (List Pt)} (h : PartsAt w S v ls) {g : Nat} {t : TypeId} {cs : List Value} (hb : Bk w g t cs) (h1 : 22 ≠ t) (h2 : 24 ≠ t) (i : Nat) (u : Value) : PartsAt (w.setCell ⟨g, i, none⟩ u) S v ls := by
  obtain ⟨vs, ho, hl, hs, hp⟩ := h
  exact ⟨vs, own_keep ho fun k hk => Below.heap_setCell _ _ _ _ (own_ne ho hk hb h1), hl, hs, fun i u l hu hi =>
    ⟨own_keep (hp i u l hu hi).1 fun k hk => Below.heap_setCell _ _ _ _ (own_ne (hp i u l hu hi).1 hk hb h2), (hp i u l hu hi).2⟩⟩

/-- Two rows of different elements are apart. -/
theorem own_apart {w : World} {b b' : Nat} {e e' : TypeId} {s s' : Nat} {v v' : Value} {n n' : Nat} {xs xs' : List Value} (h : w.ownsRow b e s v n xs) (h' : w.ownsRow b' e' s' v' n' xs') (hne : e ≠ e') {k : Nat} (hk : v.ownBlock = some k) : v'.ownBlock ≠ some k := by
  intro hk'
  rcases h.2 with ⟨rfl, _⟩ | ⟨g, cap, cur, rfl, _, hh, _⟩
  · simp [Value.ownBlock] at hk
  · rcases h'.2 with ⟨rfl, _⟩ | ⟨g', cap', cur', rfl, _, hh', _⟩
    · simp [Value.ownBlock] at hk'
    · simp [Value.ownBlock] at hk hk'
      subst hk; subst hk'
      rw [hh] at hh'
      injection hh' with hh'
      injection hh' with _ ht
      exact hne ht
theorem OwnPts.one {w : World} {v : Value} {l : List Pt} (h : OwnPts w v l) : v.oneCell' = true := by
  obtain ⟨A, c, rfl, _⟩ := h.form
  rfl

/-- The state of Line: the piece of line that grows, and the parts that are finished. -/
structure LineAt (w : World) (S : Nat → Prop) (gn go : Nat) (l : List Pt) (ls : List (List Pt)) : Prop where
  at_ : ∃ nv ov, Bk w gn 22 [nv] ∧ Bk w go 29 [ov] ∧ OwnPts w nv l ∧ (∀ k, nv.ownBlock = some k → S k) ∧ PartsAt w (fun k => S k ∧ k ≠ gn ∧ nv.ownBlock ≠ some k) ov ls
  ngn : S gn
  ngo : S go
theorem LineAt.mod {w w' : World} {S : Nat → Prop} {gn go : Nat} {l : List Pt} {ls : List (List Pt)} (h : LineAt w S gn go l ls) (hm : Mod Nothing w w') : LineAt w' S gn go l ls := by
  obtain ⟨⟨nv, ov, h1, h2, h3, h4, h5⟩, h6, h7⟩ := h
  exact ⟨⟨nv, ov, hm.bk h1 id, hm.bk h2 id, own_keep h3 fun k hk => hm.block k (own_lt h3 hk) id, h4, h5.mod hm (fun _ _ => id)⟩, h6, h7⟩

def From (B k : Nat) : Prop := B ≤ k
/-- S holds of every block that is still to be made. -/
def Up (S : Nat → Prop) (w : World) : Prop := ∀ k, w.heap.size ≤ k → S k
theorem Up.mod {S T : Nat → Prop} {w w' : World} (h : Up S w) (hm : Mod T w w') : Up S w' := fun k hk => h k (Nat.le_trans hm.size hk)
theorem LineAt.mono {w : World} {S S' : Nat → Prop} {gn go : Nat} {l : List Pt} {ls : List (List Pt)} (h : LineAt w S gn go l ls) (hS : ∀ k, k < w.heap.size → S k → S' k) : LineAt w S' gn go l ls := by
  obtain ⟨⟨nv, ov, h1, h2, h3, h4, h5⟩, h6, h7⟩ := h
  exact ⟨⟨nv, ov, h1, h2, h3, fun k hk => hS k (own_lt h3 hk) (h4 k hk), h5.mono (fun k hk hs => ⟨hS k hk hs.1, hs.2⟩)⟩, hS gn h1.lt h6, hS go h2.lt h7⟩
/-- What end does to the two lists. -/
def flush (s : List Pt × List (List Pt)) : List Pt × List (List Pt) := ([], if 1 < (dd s.1).length then s.2 ++ [dd s.1] else s.2)

/-- The end: the piece is put aside, now is nil. -/
theorem LineAt.ended {w2 : World} {S : Nat → Prop} {gn go : Nat} {nv ov : Value} {ls : List (List Pt)} (h6 : S gn) (h7 : S go) (h1 : Bk w2 gn 22 [nv]) (h2 : Bk w2 go 29 [ov]) (hp : PartsAt w2 (fun k => S k ∧ k ≠ gn) ov ls) :
    LineAt (w2.setCell ⟨gn, 0, none⟩ (.slice none 0 0)) S gn go [] ls := by
  refine ⟨⟨.slice none 0 0, ov, h1.set 0 _, h2.far (h2.ne h1 (by decide)) _, World.ownsRow_nil _ _ _ _, fun k hk => by simp [Value.ownBlock] at hk, ?_⟩, h6, h7⟩
  exact (hp.mod (((Mod.refl (fun k => k = gn) w2).setCell (p := ⟨gn, 0, none⟩) (fun _ => rfl) _)) (fun k hk => hk.2)).mono (fun k _ hk => ⟨hk.1, hk.2, by simp [Value.ownBlock]⟩)

/-- A part more. -/
theorem PartsAt.push {w W w2 : World} {S : Nat → Prop} {ov u : Value} {ls : List (List Pt)} {l : List Pt} {g cap : Nat} {vs : List Value} (hvo : w.ownsRow 0 22 1 ov vs.length vs) (hvl : vs.length = ls.length) (hvs : ∀ k, ov.ownBlock = some k → S k)
    (hvp : ∀ (i : Nat) (u : Value) (l : List Pt), vs[i]? = some u → ls[i]? = some l → OwnPts w u l ∧ (∀ k, u.ownBlock = some k → S k) ∧ u.oneCell' = true) (hu : OwnPts w u l) (hus : ∀ k, u.ownBlock = some k → S k)
    (hW : Mod Nothing w W) (hgrow : W.grownBy w2 ov.ownBlock) (hat : ov.ownBlock = some g ∨ g = W.heap.size) (hS : ∀ k, w.heap.size ≤ k → S k) (hown : w2.ownsRow 0 22 1 (.slice (some ⟨g, 0, none⟩) (vs.length + 1) cap) (vs.length + 1) (vs ++ [u])) :
    PartsAt w2 S (.slice (some ⟨g, 0, none⟩) (vs.length + 1) cap) (ls ++ [l]) := by
  have keep : ∀ {u l}, OwnPts w u l → OwnPts w2 u l := fun {u l} h => own_keep h fun k hk => (hgrow.block k (Nat.lt_of_lt_of_le (own_lt h hk) hW.size) (fun e => own_apart h hvo (by decide) hk e.symm)).trans (hW.block k (own_lt h hk) id)
  refine ⟨vs ++ [u], by simpa using hown, by simp [hvl], fun k hk => ?_, fun i u' l' hi hl' => ?_⟩
  · have hk' : g = k := by simpa [Value.ownBlock] using hk
    subst hk'
    rcases hat with hat | hat
    · exact hvs _ hat
    · exact hS _ (by rw [hat]; exact hW.size)
  · by_cases hlt : i < vs.length
    · rw [List.getElem?_append_left hlt] at hi
      rw [List.getElem?_append_left (by omega)] at hl'
      obtain ⟨h1, h2, h3⟩ := hvp i u' l' hi hl'
      exact ⟨keep h1, h2, h3⟩
    · have hie : i = vs.length := by
        have := (List.getElem?_eq_some_iff.1 hi).1
        simp at this; omega
      subst hie
      rw [List.getElem?_append_right (by omega)] at hi
      rw [List.getElem?_append_right (by omega)] at hl'
      simp at hi
      simp [hvl] at hl'
      subst hi; subst hl'
      exact ⟨keep hu, hus, hu.one⟩

set_option maxHeartbeats 1000000 in
theorem end_any {w : World} {S : Nat → Prop} {gn go : Nat} {l : List Pt} {ls : List (List Pt)} (h : LineAt w S gn go l ls) (hU : Up S w) (hs : ls.length ≤ 1000000) (hs2 : l.length ≤ 1000000) : Calls Try.prog 27 #[gptr gn, gptr go] w fun e w' =>
    e = .returned (.tuple #[]) ∧ LineAt w' S gn go (flush (l, ls)).1 (flush (l, ls)).2 ∧ Mod S w w' := by
  obtain ⟨⟨nv, ov, h1, h2, h3, h4, h5⟩, h6, h7⟩ := h
  have c0 := h1.cell 0
  have f0 := h1.frozen 0
  have hl0 := h1.lt
  simp only [List.getElem?_cons_zero] at c0
  have hne1 : nv.ownBlock ≠ some gn := fun e => own_ne h3 e h1 (by decide) rfl
  have hne2 : nv.ownBlock ≠ some go := fun e => own_ne h3 e h2 (by decide) rfl
  have hgg : gn ≠ go := h1.ne h2 (by decide)
  have H1 := hid_ h1
  have H2 := hid_ h2
  have H4 := hid_ h4
  have H5 := hid_ h5
  have HC := hid_ (compact_any h3)
  have HN1 := hid_ hne1
  have HN2 := hid_ hne2
  have HGG := hid_ hgg
  clear h1 h2 h3 h4 h5 hne1 hne2 hgg
  go_enter Try.func27, Try.ntmps27
  go_wp2_with fail
  refine HC.out.mono ?_
  rintro e w1 ⟨v', rfl, ho, hb, hm⟩
  obtain ⟨A, c, rfl, -, -⟩ := ho.form
  have h1' : Bk w1 gn 22 [nv] := hm.bk H1.out HN1.out
  have h2' : Bk w1 go 29 [ov] := hm.bk H2.out HN2.out
  have p1 := H5.out.mod hm (fun k hk h => hk.2.2 h)
  have HO := hid_ ho
  have HB := hid_ hb
  have HM := hid_ hm
  have P1 := hid_ p1
  have K1 := hid_ h1'
  have K2 := hid_ h2'
  clear c0 f0 hl0 ho hb hm p1
  have c0 := h1'.cell 0
  have f0 := h1'.frozen 0
  have hl0 := h1'.lt
  have d0 := h2'.cell 0
  have g0 := h2'.frozen 0
  have hl1 := h2'.lt
  have hgg := HGG.out
  simp only [List.getElem?_cons_zero] at c0 d0
  clear h1' h2'
  obtain ⟨m, hm⟩ : ∃ m, m = (dd l).length := ⟨_, rfl⟩
  have hml : m ≤ 1000000 := by have := dd_len_le l; omega
  rw [← hm]
  have HMM := hid_ hm
  clear hm
  obtain ⟨vs, hvo, hvl, hvs, hvp⟩ := P1.out
  obtain ⟨i0, hi0, hz0, hz1, hz2⟩ := info_parts Try.info22
  have HI0 := hid_ hi0
  have HZ0 := hid_ hz0
  have HZ1 := hid_ hz1
  have HZ2 := hid_ hz2
  have HVO := hid_ hvo
  have HVL := hid_ hvl
  have HVS := hid_ hvs
  have HVP := hid_ hvp
  have hvn : vs.length ≤ 1000000 := by omega
  clear hi0 hz0 hz1 hz2 hvo hvl hvs hvp P1
  obtain ⟨u, hu⟩ : ∃ u, u = Value.slice A m c := ⟨_, rfl⟩
  by_cases hlt : 1 < m
  · have hon : OwnPts (w1.setCell ⟨gn, 0, none⟩ (.slice A m c)) (.slice A m c) (dd l) := by
      have h := HO.out
      rw [← HMM.out] at h
      exact own_keep h fun k hk => Below.heap_setCell _ _ _ _ (own_ne h hk K1.out (by decide))
    have hvo2 : (w1.setCell ⟨gn, 0, none⟩ (.slice A m c)).ownsRow 0 22 1 ov vs.length vs := own_keep HVO.out fun k hk => Below.heap_setCell _ _ _ _ (HVS.out k hk).2.1
    have HVO2 := hid_ hvo2
    have HON := hid_ hon
    have hgo2 : Bk (w1.setCell ⟨gn, 0, none⟩ (.slice A m c)) go 29 [ov] := K2.out.far (Ne.symm hgg) _
    have HGO2 := hid_ hgo2
    have hgn2 : Bk (w1.setCell ⟨gn, 0, none⟩ (.slice A m c)) gn 22 [.slice A m c] := K1.out.set 0 _
    have HGN2 := hid_ hgn2
    have hovgo : some go ≠ ov.ownBlock := fun e => own_ne HVO.out e.symm K2.out (by decide) rfl
    have hovgn : some gn ≠ ov.ownBlock := fun e => (HVS.out gn e.symm).2.1 rfl
    have HOVGO := hid_ hovgo
    have HOVGN := hid_ hovgn
    clear hon hvo2 hgo2 hgn2 hovgo hovgn hu
    have HNEW := hid_ (show ((w1.setCell ⟨gn, 0, none⟩ (.slice A m c)).alloc (.cells #[.slice A m c] 22)).heap[w1.heap.size]? = some (.cells #[.slice A m c] 22 (0, 0)) by have h := heap_alloc_new (w1.setCell ⟨gn, 0, none⟩ (.slice A m c)) (.cells #[.slice A m c] 22); simpa using h)
    go_wp2_with (at_builtin; refine wpList_append_lies _ rfl (.tmp 7) (.tmp 9) 29 rfl 0 22 i0 _ 1 24 Try.underlying29 HI0.out HZ0.out HZ1.out HZ2.out rfl (by decide) ov vs.length vs rfl (HVO2.out.alloc _) ⟨w1.heap.size, 0, none⟩ 1 1 [.slice A m c] rfl rfl (World.news_of_block (cs := #[.slice A m c]) (t := 22) (fr := (0, 0)) HNEW.out) (by simp [Value.oneCell']) (by decide) (by unfold maxLen; omega) (by omega) (by omega) (w1.heap.size + 1) (by simp) ?_)
    intro g cap w2 hown2 hgrow2 hat2 hlt2
    have hWm : Mod Nothing (w1.setCell ⟨gn, 0, none⟩ (.slice A m c)) ((w1.setCell ⟨gn, 0, none⟩ (.slice A m c)).alloc (.cells #[.slice A m c] 22)) := (Mod.refl _ _).alloc _
    have hold : ∀ k, k < w1.heap.size → ov.ownBlock ≠ some k → w2.heap[k]? = (w1.setCell ⟨gn, 0, none⟩ (.slice A m c)).heap[k]? := fun k hk hn => (hgrow2.block k (by simp; omega) (fun e => hn e.symm)).trans (hWm.block k (by simpa using hk) id)
    have hgo3 : Bk w2 go 29 [ov] := (hold go hl1 (Ne.symm HOVGO.out)).trans HGO2.out
    have hgn3 : Bk w2 gn 22 [.slice A m c] := (hold gn hl0 (Ne.symm HOVGN.out)).trans HGN2.out
    have hSm : Mod (fun k => k = gn) w1 (w1.setCell ⟨gn, 0, none⟩ (.slice A m c)) := (Mod.refl (fun k => k = gn) w1).setCell (p := ⟨gn, 0, none⟩) (fun _ => rfl) _
    have hp := PartsAt.push (S := fun k => S k ∧ k ≠ gn) (u := .slice A m c) (l := dd l) HVO2.out HVL.out (fun k hk => ⟨(HVS.out k hk).1, (HVS.out k hk).2.1⟩)
      (fun i u l hu hl => ⟨own_keep (HVP.out i u l hu hl).1 fun k hk => hSm.block k (own_lt (HVP.out i u l hu hl).1 hk) ((HVP.out i u l hu hl).2.1 k hk).2.1, fun k hk => ⟨((HVP.out i u l hu hl).2.1 k hk).1, ((HVP.out i u l hu hl).2.1 k hk).2.1⟩, (HVP.out i u l hu hl).2.2⟩)
      HON.out (fun k hk => ⟨H4.out k (HB.out k (by rw [← HMM.out]; exact hk)), own_ne HON.out hk HGN2.out (by decide)⟩) hWm hgrow2 (by rcases hat2 with h | h <;> simp [h]) (fun k hk => ⟨hU k (by have := HM.out.size; simp at hk; omega), by simp at hk; omega⟩) hown2
    have hm1 : Mod S w w1 := HM.out.mono (fun k _ hk => H4.out k hk)
    have hm2 : Mod S w w2 := (((hm1.setCell (p := ⟨gn, 0, none⟩) (fun _ => h6) (.slice A m c))).alloc (.cells #[.slice A m c] 22)).grown hgrow2 (fun k hk _ => (HVS.out k hk).1)
    have HP := hid_ hp
    have HM2 := hid_ hm2
    have G3 := hid_ hgo3
    have N3 := hid_ hgn3
    have e1 := hgn3.cell 0
    have e2 := hgo3.cell 0
    have e3 := hgn3.frozen 0
    have e4 := hgo3.frozen 0
    have e5 := hgn3.lt
    have e6 := hgo3.lt
    simp only [List.getElem?_cons_zero] at e1 e2
    clear c0 f0 d0 g0 hp hm1 hm2 hgo3 hgn3 hold hWm hSm hown2 hgrow2 hat2
    go_wp2
    go_end0
    have hf : flush (l, ls) = ([], ls ++ [dd l]) := by unfold flush; rw [if_pos (show 1 < (dd l).length by rw [← HMM.out]; exact hlt)]
    rw [hf]
    exact ⟨rfl, LineAt.ended (w2 := w2.setCell ⟨go, 0, none⟩ (.slice (some ⟨g, 0, none⟩) (vs.length + 1) cap)) h6 h7 (N3.out.far hgg _) (G3.out.set 0 _) (HP.out.far G3.out (by decide) (by decide) 0 _),
      (HM2.out.setCell (p := ⟨go, 0, none⟩) (fun _ => h7) _).setCell (p := ⟨gn, 0, none⟩) (fun _ => h6) _⟩
  · go_wp2_with fail
    go_end0
    have hf : flush (l, ls) = ([], ls) := by unfold flush; rw [if_neg (show ¬ 1 < (dd l).length by rw [← HMM.out]; exact hlt)]
    rw [hf]
    have hp : PartsAt (w1.setCell ⟨gn, 0, none⟩ (.slice A m c)) (fun k => S k ∧ k ≠ gn) ov ls :=
      (PartsAt.mod (S := fun k => S k ∧ k ≠ gn) ⟨vs, HVO.out, HVL.out, fun k hk => ⟨(HVS.out k hk).1, (HVS.out k hk).2.1⟩, fun i u l hu hl => ⟨(HVP.out i u l hu hl).1, fun k hk => ⟨((HVP.out i u l hu hl).2.1 k hk).1, ((HVP.out i u l hu hl).2.1 k hk).2.1⟩, (HVP.out i u l hu hl).2.2⟩⟩
        ((Mod.refl (fun k => k = gn) w1).setCell (p := ⟨gn, 0, none⟩) (fun _ => rfl) (.slice A m c)) (fun k hk => hk.2))
    exact ⟨rfl, LineAt.ended h6 h7 (K1.out.set 0 _) (K2.out.far (Ne.symm hgg) _) hp, (((HM.out.mono (S' := S) (fun k _ hk => H4.out k hk)).setCell (p := ⟨gn, 0, none⟩) (fun _ => h6) _).setCell (p := ⟨gn, 0, none⟩) (fun _ => h6) _)⟩
end Go.Proofs.Ytadiajlegajclaa
