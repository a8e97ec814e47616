/- A cut's methods: keeps, across. -/
import Derived.Test.YtadiajlegajclaaA7
import Derived.Test.YtadiajlegajclaaM3
set_option linter.unusedVariables false
set_option linter.unusedSimpArgs false
namespace Go.Proofs.Ytadiajlegajclaa
open Go.RowKit

theorem c0_any (p : Pt) (w : World) (h : PtNear p) : Calls Try.prog 32 #[ptV p] w (IPost (coord 0 p) w) := by
  obtain ⟨⟨h1, h2⟩, h3, h4⟩ := h
  go_enter Try.func32, Try.ntmps32
  go_wp2
  go_returns
  exact ⟨rfl, (Mod.refl _ _).alloc _⟩
theorem c1_any (p : Pt) (w : World) (h : PtNear p) : Calls Try.prog 33 #[ptV p] w (IPost (coord 1 p) w) := by
  obtain ⟨⟨h1, h2⟩, h3, h4⟩ := h
  go_enter Try.func33, Try.ntmps33
  go_wp2
  go_returns
  exact ⟨rfl, (Mod.refl _ _).alloc _⟩
theorem c2_any (p : Pt) (w : World) (h : PtNear p) : Calls Try.prog 34 #[ptV p] w (IPost (coord 2 p) w) := by
  obtain ⟨⟨h1, h2⟩, h3, h4⟩ := h
  go_enter Try.func34, Try.ntmps34
  go_wp2
  go_returns
  exact ⟨rfl, (Mod.refl _ _).alloc _⟩
theorem c3_any (p : Pt) (w : World) (h : PtNear p) : Calls Try.prog 35 #[ptV p] w (IPost (coord 3 p) w) := by
  obtain ⟨⟨h1, h2⟩, h3, h4⟩ := h
  go_enter Try.func35, Try.ntmps35
  go_wp2
  go_returns
  exact ⟨rfl, (Mod.refl _ _).alloc _⟩
def cid (i : Nat) : FuncId := 32 + i
theorem coord_any {i : Nat} (hi : i < 4) (p : Pt) (w : World) (h : PtNear p) : Calls Try.prog (cid i) #[ptV p] w (IPost (coord i p) w) := by
  match i, hi with
  | 0, _ => exact c0_any p w h
  | 1, _ => exact c1_any p w h
  | 2, _ => exact c2_any p w h
  | 3, _ => exact c3_any p w h
theorem coord_bd {i : Nat} {p : Pt} (h : PtNear p) : -2097152 ≤ coord i p ∧ coord i p ≤ 2097152 := by
  obtain ⟨⟨h1, h2⟩, h3, h4⟩ := h
  unfold coord
  split
  · omega
  split
  · omega
  split <;> omega

theorem callFunc_cid {i : Nat} (hi : i < 4) (args : Array Value) (w : World) : (callFunc (cid i) args).run Try.prog w = .ok (.enter (cid i) args) w := by
  match i, hi with
  | 0, _ => simp [cid, go_sem]
  | 1, _ => simp [cid, go_sem]
  | 2, _ => simp [cid, go_sem]
  | 3, _ => simp [cid, go_sem]
/-- A cut as a value: its function and its limit. -/
abbrev cutV (i : Nat) (b : Bx) : Value := .agg #[.func (.func (cid i)) #[] #[], .int .i64 (limitC i b)]

set_option maxHeartbeats 1000000 in
theorem keeps_any {i : Nat} (hi : i < 4) (b : Bx) (p : Pt) (w : World) (h : PtNear p) : Calls Try.prog 36 #[cutV i b, ptV p] w (BPost (keepsF i b p) w) := by
  have hcall := fun w => coord_any hi p w h
  have hcf := fun args w => callFunc_cid hi args w
  obtain ⟨f, hf⟩ : ∃ f, f = cid i := ⟨_, rfl⟩
  obtain ⟨c, hc⟩ : ∃ c, c = coord i p := ⟨_, rfl⟩
  obtain ⟨lim, hlim⟩ : ∃ lim, lim = limitC i b := ⟨_, rfl⟩
  have e : keepsF i b p = decide (c ≤ lim) := by rw [keepsF, hc, hlim]
  rw [e]
  show Calls Try.prog 36 #[.agg #[.func (.func (cid i)) #[] #[], .int .i64 (limitC i b)], ptV p] w _
  rw [← hf, ← hc] at hcall
  rw [← hf] at hcf
  rw [← hf, ← hlim]
  have HCA := hid_ hcall
  clear hcall e hf hc hlim h hi
  go_enter Try.func36, Try.ntmps36
  go_wp2_with fail
  have B0 := hid_ (show Bk ((w.alloc (.cells #[.func (.func f) #[] #[], .int .i64 lim] 46)).alloc (.cells #[.int .i64 p.x, .int .i64 p.y] 24)) w.heap.size 46 [.func (.func f) #[] #[], .int .i64 lim] from (Bk.new _ _ _).alloc _)
  have B1 := hid_ (show Bk ((w.alloc (.cells #[.func (.func f) #[] #[], .int .i64 lim] 46)).alloc (.cells #[.int .i64 p.x, .int .i64 p.y] 24)) (w.heap.size + 1) 24 [.int .i64 p.x, .int .i64 p.y] from by have h := Bk.new (w.alloc (.cells #[.func (.func f) #[] #[], .int .i64 lim] 46)) 24 [.int .i64 p.x, .int .i64 p.y]; simpa using h)
  refine wp_region_stepsC [gptr w.heap.size, .func (.func f) #[] #[], ptV p, .int .i64 c, .pointer (some ⟨w.heap.size, 1, none⟩), .int .i64 lim, .bool (decide (c ≤ lim)), .bool (decide (c ≤ lim))] (Mod Nothing ((w.alloc (.cells #[.func (.func f) #[] #[], .int .i64 lim] 46)).alloc (.cells #[.int .i64 p.x, .int .i64 p.y] 24))) (by kernel_rfl) (by kernel_rfl)
    (by simp only [putAll, Act.put, List.setIfInBounds_toArray, List.set_cons_zero, List.set_cons_succ]; rfl) ((Mod.refl _ _).drew) ?_ ?_
  · refine ⟨?_, ?_, ?_, ?_, ?_, ?_, ?_, ?_, trivial⟩
    · intro L w' hun hw hC
      refine step_yes rfl ?_
      have HC := hid_ hC
      clear hun hw hC
      go_simp
      exact still rfl HC.out
    · intro L w' hun hw hC
      refine step_yes rfl ?_
      have HC := hid_ hC
      obtain ⟨x0, x1, -, -, hl1⟩ := (hC.bk B0.out id).two
      obtain ⟨y0, y1, -, -, hl2⟩ := (hC.bk B1.out id).two
      clear hun hw hC
      go_simp
      exact still rfl HC.out
    · intro L w' hun hw hC
      refine step_yes rfl ?_
      have HC := hid_ hC
      obtain ⟨x0, x1, -, -, hl1⟩ := (hC.bk B0.out id).two
      obtain ⟨y0, y1, -, -, hl2⟩ := (hC.bk B1.out id).two
      clear hun hw hC
      go_simp
      exact still rfl HC.out
    · intro L w' hun hw hC
      refine step_yes rfl ?_
      have HC := hid_ hC
      clear hun hw hC
      go_simp
      refine (HCA.out _).mono ?_
      rintro e w3 ⟨rfl, hm⟩
      exact still rfl (HC.out.trans hm (fun _ _ h => h))
    · intro L w' hun hw hC
      refine step_yes rfl ?_
      have HC := hid_ hC
      clear hun hw hC
      go_simp
      exact still rfl HC.out
    · intro L w' hun hw hC
      refine step_yes rfl ?_
      have HC := hid_ hC
      obtain ⟨x0, x1, -, -, hl1⟩ := (hC.bk B0.out id).two
      obtain ⟨y0, y1, -, -, hl2⟩ := (hC.bk B1.out id).two
      clear hun hw hC
      go_simp
      exact still rfl HC.out
    · intro L w' hun hw hC
      refine step_yes rfl ?_
      have HC := hid_ hC
      clear hun hw hC
      go_simp
      exact still rfl HC.out
    · intro L w' hun hw hC
      refine step_yes rfl ?_
      have HC := hid_ hC
      clear hun hw hC
      go_simp
      exact still rfl HC.out
  · intro w' hC
    have HM := hid_ (Mod.trans (((Mod.refl Nothing w).alloc _).alloc _) hC (fun _ _ h => h))
    clear hC
    go_wp2
    go_returns
    exact ⟨rfl, HM.out⟩
/-- While across reckons its ratio: the new variable at γ. -/
structure AcrQ (w0 : World) (t : Ra) (L : Array Bool) (γ : Nat) (w' : World) : Prop where
  base : Mod Nothing w0 w'
  t : L.getD 17 false = true → w0.heap.size ≤ γ ∧ Bk w' γ 60 (if L.getD 18 false then [.int .i64 t.1, .int .i64 t.2] else [.int .i64 0, .int .i64 0])
  o : L.getD 18 false = true → L.getD 17 false = true
theorem AcrQ.skip {w0 : World} {t : Ra} {L : Array Bool} {γ : Nat} {w1 w2 : World} (h : AcrQ w0 t L γ w1) (hm : Mod Nothing w1 w2) (i : Nat) (h1 : i ≠ 17) (h2 : i ≠ 18) : AcrQ w0 t (L.setIfInBounds i true) γ w2 := by
  refine ⟨h.base.trans hm (fun _ _ h => h), ?_, ?_⟩
  · rw [getD_set_ne false h1, getD_set_ne false h2]
    exact fun e => ⟨(h.t e).1, hm.bk (h.t e).2 id⟩
  · rw [getD_set_ne false h1, getD_set_ne false h2]; exact h.o
theorem AcrQ.new1 {w0 : World} {t : Ra} {L : Array Bool} {γ : Nat} {w1 : World} (h : AcrQ w0 t L γ w1) (hu : L.getD 17 true = false) : AcrQ w0 t (L.setIfInBounds 17 true) w1.heap.size (w1.alloc (.cells #[.int .i64 0, .int .i64 0] 60)) := by
  have h18 : L.getD 18 false = false := by
    cases e : L.getD 18 false with
    | false => rfl
    | true => have := h.o e; rw [getD_un hu] at this; cases this
  refine ⟨h.base.alloc _, fun _ => ?_, fun _ => getD_put hu⟩
  rw [getD_set_ne false (by decide), h18]
  exact ⟨h.base.size, Bk.new _ _ _⟩
theorem AcrQ.put1 {w0 : World} {t : Ra} {L : Array Bool} {γ : Nat} {w1 : World} (h : AcrQ w0 t L γ w1) (hu : L.getD 18 true = false) (hl : L.getD 17 false = true) :
    AcrQ w0 t (L.setIfInBounds 18 true) γ ((w1.setCell ⟨γ, 0, none⟩ (.int .i64 t.1)).setCell ⟨γ, 1, none⟩ (.int .i64 t.2)) := by
  obtain ⟨h1, h2⟩ := h.t hl
  rw [getD_un hu] at h2
  refine ⟨(h.base.setNew (p := ⟨γ, 0, none⟩) h1 _).setNew (p := ⟨γ, 1, none⟩) h1 _, fun _ => ?_, fun _ => ?_⟩
  · rw [if_pos (getD_put hu)]
    exact ⟨h1, (h2.set 0 _).set 1 _⟩
  · rw [getD_set_ne false (by decide)]; exact hl
/-- While across stores its result at block n + 3. -/
structure AcrR (n : Nat) (u : Pt) (w0 : World) (L : Array Bool) (w' : World) : Prop where
  base : Mod (fun k => k = n + 1 + 1 + 1) w0 w'
  res : Bk w' (n + 1 + 1 + 1) 24 (if L.getD 21 false then [.int .i64 u.x, .int .i64 u.y] else [.int .i64 0, .int .i64 0])
theorem AcrR.skip {n : Nat} {u : Pt} {w0 : World} {L : Array Bool} {w1 w2 : World} (h : AcrR n u w0 L w1) (hm : Mod Nothing w1 w2) (i : Nat) (h1 : i ≠ 21) : AcrR n u w0 (L.setIfInBounds i true) w2 := by
  refine ⟨h.base.trans hm (fun _ _ h => h.elim), ?_⟩
  rw [getD_set_ne false h1]
  exact hm.bk h.res id
theorem AcrR.put {n : Nat} {u : Pt} {w0 : World} {L : Array Bool} {w1 : World} (h : AcrR n u w0 L w1) (hu : L.getD 21 true = false) : AcrR n u w0 (L.setIfInBounds 21 true) ((w1.setCell ⟨n + 1 + 1 + 1, 0, none⟩ (.int .i64 u.x)).setCell ⟨n + 1 + 1 + 1, 1, none⟩ (.int .i64 u.y)) := by
  have hr := h.res
  rw [getD_un hu] at hr
  refine ⟨(h.base.setCell (p := ⟨n + 1 + 1 + 1, 0, none⟩) (fun _ => rfl) _).setCell (p := ⟨n + 1 + 1 + 1, 1, none⟩) (fun _ => rfl) _, ?_⟩
  rw [if_pos (getD_put hu)]
  exact (hr.set 0 _).set 1 _

set_option maxRecDepth 100000 in
set_option maxHeartbeats 8000000 in
theorem across_any {i : Nat} (hi : i < 4) (b : Bx) (p q : Pt) (w : World) (hp : PtNear p) (hq : PtNear q) (hl : -2097152 ≤ limitC i b ∧ limitC i b ≤ 2097152) (hne : coord i q - coord i p ≠ 0) : Calls Try.prog 37 #[cutV i b, ptV p, ptV q] w (PPost (acrossF i b p q) w) := by
  have hcp := fun w => coord_any hi p w hp
  have hcq := fun w => coord_any hi q w hq
  have hcf := fun args w => callFunc_cid hi args w
  obtain ⟨bp1, bp2⟩ := coord_bd (i := i) hp
  obtain ⟨bq1, bq2⟩ := coord_bd (i := i) hq
  have hto := raOf_ok (a := limitC i b - coord i p) hne (by omega) (by omega) (by omega) (by omega)
  have hof := fun w => of_any (limitC i b - coord i p) (coord i q - coord i p) w (by omega) (by omega) (by omega) (by omega)
  have e : acrossF i b p q = ptAt p (q.x - p.x) (q.y - p.y) (raOf (limitC i b - coord i p) (coord i q - coord i p)) := rfl
  rw [e]
  show Calls Try.prog 37 #[.agg #[.func (.func (cid i)) #[] #[], .int .i64 (limitC i b)], ptV p, ptV q] w _
  obtain ⟨hl1, hl2⟩ := hl
  obtain ⟨⟨px1, px2⟩, py1, py2⟩ := hp
  obtain ⟨⟨qx1, qx2⟩, qy1, qy2⟩ := hq
  obtain ⟨f, hf⟩ : ∃ f, f = cid i := ⟨_, rfl⟩
  obtain ⟨cp, hc⟩ : ∃ cp, cp = coord i p := ⟨_, rfl⟩
  obtain ⟨cq, hc2⟩ : ∃ cq, cq = coord i q := ⟨_, rfl⟩
  obtain ⟨lim, hlim⟩ : ∃ lim, lim = limitC i b := ⟨_, rfl⟩
  rw [← hf, ← hc] at hcp
  rw [← hf, ← hc2] at hcq
  rw [← hf] at hcf
  rw [← hc] at bp1 bp2
  rw [← hc2] at bq1 bq2
  rw [← hlim] at hl1 hl2
  rw [← hc, ← hc2, ← hlim] at hto hof ⊢
  rw [← hf]
  obtain ⟨t, ht⟩ : ∃ t, t = raOf (lim - cp) (cq - cp) := ⟨_, rfl⟩
  rw [← ht] at hto hof ⊢
  have HP := hid_ hcp
  have HQ := hid_ hcq
  have HO := hid_ hof
  have RX := hid_ (fun w => round_any t (q.x - p.x) w hto (by omega) (by omega))
  have RY := hid_ (fun w => round_any t (q.y - p.y) w hto (by omega) (by omega))
  obtain ⟨bx1, bx2⟩ := rnd_bd hto (n := q.x - p.x) (by omega) (by omega)
  obtain ⟨by1, by2⟩ := rnd_bd hto (n := q.y - p.y) (by omega) (by omega)
  rw [ptAt]
  obtain ⟨X, hX⟩ : ∃ X, X = rnd (t.1 * (q.x - p.x)) t.2 := ⟨_, rfl⟩
  obtain ⟨Y, hY⟩ : ∃ Y, Y = rnd (t.1 * (q.y - p.y)) t.2 := ⟨_, rfl⟩
  rw [← hX] at RX bx1 bx2
  rw [← hY] at RY by1 by2
  rw [← hX, ← hY]
  have v1 : IntKind.i64.wrap (lim - cp) = lim - cp := IntWalk.i64_in _ (by omega)
  have v2 : IntKind.i64.wrap (cq - cp) = cq - cp := IntWalk.i64_in _ (by omega)
  have v3 : IntKind.i64.wrap (q.x - p.x) = q.x - p.x := IntWalk.i64_in _ (by omega)
  have v4 : IntKind.i64.wrap (q.y - p.y) = q.y - p.y := IntWalk.i64_in _ (by omega)
  have v5 : IntKind.i64.wrap (p.x + X) = p.x + X := IntWalk.i64_in _ (by omega)
  have v6 : IntKind.i64.wrap (p.y + Y) = p.y + Y := IntWalk.i64_in _ (by omega)
  clear hcp hcq hof hto e hf hc hc2 hlim ht hX hY hne hi
  go_enter Try.func37, Try.ntmps37
  go_wp2_with fail
  have hb1 : ∀ (u : World) t cs m, u.heap.size = m → Bk (u.alloc (.cells cs t)) m t cs.toList := fun u t cs m h => by subst h; exact Bk.new u t cs.toList
  have B0 := hid_ (show Bk ((((w.alloc (.cells #[.func (.func f) #[] #[], .int .i64 lim] 46)).alloc (.cells #[.int .i64 p.x, .int .i64 p.y] 24)).alloc (.cells #[.int .i64 q.x, .int .i64 q.y] 24)).alloc (.cells #[.int .i64 0, .int .i64 0] 24)) w.heap.size 46 [.func (.func f) #[] #[], .int .i64 lim] from (((hb1 _ _ #[_, _] _ rfl).alloc _).alloc _).alloc _)
  have B1 := hid_ (show Bk ((((w.alloc (.cells #[.func (.func f) #[] #[], .int .i64 lim] 46)).alloc (.cells #[.int .i64 p.x, .int .i64 p.y] 24)).alloc (.cells #[.int .i64 q.x, .int .i64 q.y] 24)).alloc (.cells #[.int .i64 0, .int .i64 0] 24)) (w.heap.size + 1) 24 [.int .i64 p.x, .int .i64 p.y] from ((hb1 _ _ #[_, _] _ (by simp)).alloc _).alloc _)
  have B2 := hid_ (show Bk ((((w.alloc (.cells #[.func (.func f) #[] #[], .int .i64 lim] 46)).alloc (.cells #[.int .i64 p.x, .int .i64 p.y] 24)).alloc (.cells #[.int .i64 q.x, .int .i64 q.y] 24)).alloc (.cells #[.int .i64 0, .int .i64 0] 24)) (w.heap.size + 1 + 1) 24 [.int .i64 q.x, .int .i64 q.y] from (hb1 _ _ #[_, _] _ (by simp)).alloc _)
  have B3 := hid_ (show Bk ((((w.alloc (.cells #[.func (.func f) #[] #[], .int .i64 lim] 46)).alloc (.cells #[.int .i64 p.x, .int .i64 p.y] 24)).alloc (.cells #[.int .i64 q.x, .int .i64 q.y] 24)).alloc (.cells #[.int .i64 0, .int .i64 0] 24)) (w.heap.size + 1 + 1 + 1) 24 [.int .i64 0, .int .i64 0] from hb1 _ _ #[_, _] _ (by simp))
  have hsz : ((((w.alloc (.cells #[.func (.func f) #[] #[], .int .i64 lim] 46)).alloc (.cells #[.int .i64 p.x, .int .i64 p.y] 24)).alloc (.cells #[.int .i64 q.x, .int .i64 q.y] 24)).alloc (.cells #[.int .i64 0, .int .i64 0] 24)).heap.size = w.heap.size + 4 := by simp
  have HMW := hid_ (show Mod Nothing w ((((w.alloc (.cells #[.func (.func f) #[] #[], .int .i64 lim] 46)).alloc (.cells #[.int .i64 p.x, .int .i64 p.y] 24)).alloc (.cells #[.int .i64 q.x, .int .i64 q.y] 24)).alloc (.cells #[.int .i64 0, .int .i64 0] 24)) from ((((Mod.refl _ _).alloc _).alloc _).alloc _).alloc _)
  clear hb1
  obtain ⟨w0, hw0⟩ : ∃ w0, w0 = (((w.alloc (.cells #[.func (.func f) #[] #[], .int .i64 lim] 46)).alloc (.cells #[.int .i64 p.x, .int .i64 p.y] 24)).alloc (.cells #[.int .i64 q.x, .int .i64 q.y] 24)).alloc (.cells #[.int .i64 0, .int .i64 0] 24) := ⟨_, rfl⟩
  rw [← hw0] at B0 B1 B2 B3 hsz HMW ⊢
  clear hw0
  have HSZ := hid_ hsz
  clear hsz
  go_cut [7] (fun x wc => ∃ g, x = gptr g ∧ w0.heap.size ≤ g ∧ Bk wc g 60 [.int .i64 t.1, .int .i64 t.2] ∧ Mod Nothing w0 wc)
  case first =>
    refine wp_region_ghost 0 (fun γ => [.pointer (some ⟨w.heap.size, 1, none⟩), .int .i64 lim, gptr w.heap.size, .func (.func f) #[] #[], ptV p, .int .i64 cp, .int .i64 (lim - cp), gptr w.heap.size, .func (.func f) #[] #[], ptV q, .int .i64 cq, gptr w.heap.size, .func (.func f) #[] #[], ptV p, .int .i64 cp, .int .i64 (cq - cp), raV t, gptr γ, undef]) (AcrQ w0 t) (by kernel_rfl) (by kernel_rfl)
      (fun γ => by simp only [putAll, Act.put, List.setIfInBounds_toArray, List.set_cons_zero, List.set_cons_succ]; rfl) (⟨(Mod.refl _ _).drew, fun h => by simp at h, fun h => by simp at h⟩) ?_ ?_
    · refine ⟨?_, ?_, ?_, ?_, ?_, ?_, ?_, ?_, ?_, ?_, ?_, ?_, ?_, ?_, ?_, ?_, ?_, ?_, ?_, trivial⟩
      · intro L γ w' hun hw hC
        refine step_yes rfl ?_
        have HC := hid_ hC
        clear hun hw hC
        go_simp
        exact turned γ rfl (HC.out.skip (Mod.refl _ _) 0 (by decide) (by decide))
      · intro L γ w' hun hw hC
        refine step_yes rfl ?_
        have HC := hid_ hC
        obtain ⟨x0, x1, -, -, hl1⟩ := (hC.base.bk B0.out id).two
        obtain ⟨y0, y1, -, -, hl2⟩ := (hC.base.bk B1.out id).two
        obtain ⟨z0, z1, -, -, hl3⟩ := (hC.base.bk B2.out id).two
        clear hun hw hC
        go_simp
        exact turned γ rfl (HC.out.skip (Mod.refl _ _) 1 (by decide) (by decide))
      · intro L γ w' hun hw hC
        refine step_yes rfl ?_
        have HC := hid_ hC
        clear hun hw hC
        go_simp
        exact turned γ rfl (HC.out.skip (Mod.refl _ _) 2 (by decide) (by decide))
      · intro L γ w' hun hw hC
        refine step_yes rfl ?_
        have HC := hid_ hC
        obtain ⟨x0, x1, -, -, hl1⟩ := (hC.base.bk B0.out id).two
        obtain ⟨y0, y1, -, -, hl2⟩ := (hC.base.bk B1.out id).two
        obtain ⟨z0, z1, -, -, hl3⟩ := (hC.base.bk B2.out id).two
        clear hun hw hC
        go_simp
        exact turned γ rfl (HC.out.skip (Mod.refl _ _) 3 (by decide) (by decide))
      · intro L γ w' hun hw hC
        refine step_yes rfl ?_
        have HC := hid_ hC
        obtain ⟨x0, x1, -, -, hl1⟩ := (hC.base.bk B0.out id).two
        obtain ⟨y0, y1, -, -, hl2⟩ := (hC.base.bk B1.out id).two
        obtain ⟨z0, z1, -, -, hl3⟩ := (hC.base.bk B2.out id).two
        clear hun hw hC
        go_simp
        exact turned γ rfl (HC.out.skip (Mod.refl _ _) 4 (by decide) (by decide))
      · intro L γ w' hun hw hC
        refine step_yes rfl ?_
        have HC := hid_ hC
        clear hun hw hC
        go_simp
        refine (HP.out _).mono ?_
        rintro e w3 ⟨rfl, hm⟩
        exact turned γ rfl (HC.out.skip hm 5 (by decide) (by decide))
      · intro L γ w' hun hw hC
        refine step_yes rfl ?_
        have HC := hid_ hC
        clear hun hw hC
        go_simp
        exact turned γ rfl (HC.out.skip (Mod.refl _ _) 6 (by decide) (by decide))
      · intro L γ w' hun hw hC
        refine step_yes rfl ?_
        have HC := hid_ hC
        clear hun hw hC
        go_simp
        exact turned γ rfl (HC.out.skip (Mod.refl _ _) 7 (by decide) (by decide))
      · intro L γ w' hun hw hC
        refine step_yes rfl ?_
        have HC := hid_ hC
        obtain ⟨x0, x1, -, -, hl1⟩ := (hC.base.bk B0.out id).two
        obtain ⟨y0, y1, -, -, hl2⟩ := (hC.base.bk B1.out id).two
        obtain ⟨z0, z1, -, -, hl3⟩ := (hC.base.bk B2.out id).two
        clear hun hw hC
        go_simp
        exact turned γ rfl (HC.out.skip (Mod.refl _ _) 8 (by decide) (by decide))
      · intro L γ w' hun hw hC
        refine step_yes rfl ?_
        have HC := hid_ hC
        obtain ⟨x0, x1, -, -, hl1⟩ := (hC.base.bk B0.out id).two
        obtain ⟨y0, y1, -, -, hl2⟩ := (hC.base.bk B1.out id).two
        obtain ⟨z0, z1, -, -, hl3⟩ := (hC.base.bk B2.out id).two
        clear hun hw hC
        go_simp
        exact turned γ rfl (HC.out.skip (Mod.refl _ _) 9 (by decide) (by decide))
      · intro L γ w' hun hw hC
        refine step_yes rfl ?_
        have HC := hid_ hC
        clear hun hw hC
        go_simp
        refine (HQ.out _).mono ?_
        rintro e w3 ⟨rfl, hm⟩
        exact turned γ rfl (HC.out.skip hm 10 (by decide) (by decide))
      · intro L γ w' hun hw hC
        refine step_yes rfl ?_
        have HC := hid_ hC
        clear hun hw hC
        go_simp
        exact turned γ rfl (HC.out.skip (Mod.refl _ _) 11 (by decide) (by decide))
      · intro L γ w' hun hw hC
        refine step_yes rfl ?_
        have HC := hid_ hC
        obtain ⟨x0, x1, -, -, hl1⟩ := (hC.base.bk B0.out id).two
        obtain ⟨y0, y1, -, -, hl2⟩ := (hC.base.bk B1.out id).two
        obtain ⟨z0, z1, -, -, hl3⟩ := (hC.base.bk B2.out id).two
        clear hun hw hC
        go_simp
        exact turned γ rfl (HC.out.skip (Mod.refl _ _) 12 (by decide) (by decide))
      · intro L γ w' hun hw hC
        refine step_yes rfl ?_
        have HC := hid_ hC
        obtain ⟨x0, x1, -, -, hl1⟩ := (hC.base.bk B0.out id).two
        obtain ⟨y0, y1, -, -, hl2⟩ := (hC.base.bk B1.out id).two
        obtain ⟨z0, z1, -, -, hl3⟩ := (hC.base.bk B2.out id).two
        clear hun hw hC
        go_simp
        exact turned γ rfl (HC.out.skip (Mod.refl _ _) 13 (by decide) (by decide))
      · intro L γ w' hun hw hC
        refine step_yes rfl ?_
        have HC := hid_ hC
        clear hun hw hC
        go_simp
        refine (HP.out _).mono ?_
        rintro e w3 ⟨rfl, hm⟩
        exact turned γ rfl (HC.out.skip hm 14 (by decide) (by decide))
      · intro L γ w' hun hw hC
        refine step_yes rfl ?_
        have HC := hid_ hC
        clear hun hw hC
        go_simp
        exact turned γ rfl (HC.out.skip (Mod.refl _ _) 15 (by decide) (by decide))
      · intro L γ w' hun hw hC
        refine step_yes rfl ?_
        have HC := hid_ hC
        clear hun hw hC
        go_simp
        refine (HO.out _).mono ?_
        rintro e w3 ⟨rfl, hm⟩
        exact turned γ rfl (HC.out.skip hm 16 (by decide) (by decide))
      · intro L γ w' hun hw hC
        refine step_yes rfl ?_
        have HC := hid_ hC
        have HU := hid_ hun
        clear hun hw hC
        go_simp
        exact turned w'.heap.size rfl (HC.out.new1 HU.out)
      · intro L γ w' hun hw hC
        refine step_yes rfl ?_
        have hl : L.getD 17 false = true := hw ⟨17, .data⟩ (by simp) rfl
        have hb := (hC.t hl).2
        rw [getD_un hun] at hb
        obtain ⟨c0, c1, f0, f1, hlt0⟩ := hb.two
        have HC := hid_ hC
        have HU := hid_ hun
        have HLL := hid_ hl
        clear hun hw hC hl hb
        go_simp
        exact turned γ rfl (HC.out.put1 HU.out HLL.out)
    · intro L γ w' hall hC
      have ht := hC.t (hall 17 (by decide))
      rw [if_pos (hall 18 (by decide))] at ht
      have HX := hid_ (⟨ht.1, ht.2, hC.base⟩ : w0.heap.size ≤ γ ∧ Bk w' γ 60 [.int .i64 t.1, .int .i64 t.2] ∧ Mod Nothing w0 w')
      clear hall hC ht
      go_wp2
      go_meet
      exact ⟨γ, rfl, HX.out⟩
  case rest =>
    obtain ⟨g, rfl, hge, hbt, hmc⟩ := hcut
    have HGE := hid_ (show w.heap.size + 4 ≤ g by have := HSZ.out; omega)
    have BT := hid_ hbt
    have HMT := hid_ (HMW.out.trans hmc (fun _ _ h => h))
    have B1' := hid_ (hmc.bk B1.out id)
    have B2' := hid_ (hmc.bk B2.out id)
    have B3' := hid_ (hmc.bk B3.out id)
    clear B0 B1 B2 B3 hge hbt hmc
    obtain ⟨w2, hw2⟩ : ∃ w2, w2 = wc := ⟨_, rfl⟩
    rw [← hw2] at BT HMT B1' B2' B3' ⊢
    clear hw2
    have B1 := hid_ B1'.out
    have B2 := hid_ B2'.out
    have B3 := hid_ B3'.out
    clear B1' B2' B3'
    go_wp2_with fail
    refine wp_region_stepsL [gptr (w.heap.size + 1), .int .i64 p.x, raV t, gptr (w.heap.size + 1 + 1), .int .i64 q.x, gptr (w.heap.size + 1), .int .i64 p.x, .int .i64 (q.x - p.x), .int .i64 X, .int .i64 (p.x + X), .pointer (some ⟨w.heap.size + 1, 1, none⟩), .int .i64 p.y, raV t, .pointer (some ⟨w.heap.size + 1 + 1, 1, none⟩), .int .i64 q.y, .pointer (some ⟨w.heap.size + 1, 1, none⟩), .int .i64 p.y, .int .i64 (q.y - p.y), .int .i64 Y, .int .i64 (p.y + Y), ptV ⟨p.x + X, p.y + Y⟩, undef] (AcrR w.heap.size ⟨p.x + X, p.y + Y⟩ w2) (by kernel_rfl) (by kernel_rfl)
      (by simp only [putAll, Act.put, List.setIfInBounds_toArray, List.set_cons_zero, List.set_cons_succ]; rfl) ⟨(Mod.refl _ _).drew, by rw [if_neg (by intro h; simp at h)]; exact B3.out.drew⟩ ?_ ?_
    · refine ⟨?_, ?_, ?_, ?_, ?_, ?_, ?_, ?_, ?_, ?_, ?_, ?_, ?_, ?_, ?_, ?_, ?_, ?_, ?_, ?_, ?_, ?_, trivial⟩
      · intro L w' hun hw hC
        refine step_yes rfl ?_
        have HC := hid_ hC
        clear hun hw hC
        go_simp
        exact still rfl (HC.out.skip (Mod.refl _ _) 0 (by decide))
      · intro L w' hun hw hC
        refine step_yes rfl ?_
        have HC := hid_ hC
        obtain ⟨y0, y1, -, -, hl2⟩ := (hC.base.bk B1.out (by omega)).two
        obtain ⟨z0, z1, -, -, hl3⟩ := (hC.base.bk B2.out (by omega)).two
        obtain ⟨t0, t1, -, -, hl4⟩ := (hC.base.bk BT.out (by have := HGE.out; omega)).two
        clear hun hw hC
        go_simp
        exact still rfl (HC.out.skip (Mod.refl _ _) 1 (by decide))
      · intro L w' hun hw hC
        refine step_yes rfl ?_
        have HC := hid_ hC
        obtain ⟨y0, y1, -, -, hl2⟩ := (hC.base.bk B1.out (by omega)).two
        obtain ⟨z0, z1, -, -, hl3⟩ := (hC.base.bk B2.out (by omega)).two
        obtain ⟨t0, t1, -, -, hl4⟩ := (hC.base.bk BT.out (by have := HGE.out; omega)).two
        clear hun hw hC
        go_simp
        exact still rfl (HC.out.skip (Mod.refl _ _) 2 (by decide))
      · intro L w' hun hw hC
        refine step_yes rfl ?_
        have HC := hid_ hC
        clear hun hw hC
        go_simp
        exact still rfl (HC.out.skip (Mod.refl _ _) 3 (by decide))
      · intro L w' hun hw hC
        refine step_yes rfl ?_
        have HC := hid_ hC
        obtain ⟨y0, y1, -, -, hl2⟩ := (hC.base.bk B1.out (by omega)).two
        obtain ⟨z0, z1, -, -, hl3⟩ := (hC.base.bk B2.out (by omega)).two
        obtain ⟨t0, t1, -, -, hl4⟩ := (hC.base.bk BT.out (by have := HGE.out; omega)).two
        clear hun hw hC
        go_simp
        exact still rfl (HC.out.skip (Mod.refl _ _) 4 (by decide))
      · intro L w' hun hw hC
        refine step_yes rfl ?_
        have HC := hid_ hC
        clear hun hw hC
        go_simp
        exact still rfl (HC.out.skip (Mod.refl _ _) 5 (by decide))
      · intro L w' hun hw hC
        refine step_yes rfl ?_
        have HC := hid_ hC
        obtain ⟨y0, y1, -, -, hl2⟩ := (hC.base.bk B1.out (by omega)).two
        obtain ⟨z0, z1, -, -, hl3⟩ := (hC.base.bk B2.out (by omega)).two
        obtain ⟨t0, t1, -, -, hl4⟩ := (hC.base.bk BT.out (by have := HGE.out; omega)).two
        clear hun hw hC
        go_simp
        exact still rfl (HC.out.skip (Mod.refl _ _) 6 (by decide))
      · intro L w' hun hw hC
        refine step_yes rfl ?_
        have HC := hid_ hC
        clear hun hw hC
        go_simp
        exact still rfl (HC.out.skip (Mod.refl _ _) 7 (by decide))
      · intro L w' hun hw hC
        refine step_yes rfl ?_
        have HC := hid_ hC
        clear hun hw hC
        go_simp
        refine (RX.out _).mono ?_
        rintro e w3 ⟨rfl, hm⟩
        exact still rfl (HC.out.skip hm 8 (by decide))
      · intro L w' hun hw hC
        refine step_yes rfl ?_
        have HC := hid_ hC
        clear hun hw hC
        go_simp
        exact still rfl (HC.out.skip (Mod.refl _ _) 9 (by decide))
      · intro L w' hun hw hC
        refine step_yes rfl ?_
        have HC := hid_ hC
        clear hun hw hC
        go_simp
        exact still rfl (HC.out.skip (Mod.refl _ _) 10 (by decide))
      · intro L w' hun hw hC
        refine step_yes rfl ?_
        have HC := hid_ hC
        obtain ⟨y0, y1, -, -, hl2⟩ := (hC.base.bk B1.out (by omega)).two
        obtain ⟨z0, z1, -, -, hl3⟩ := (hC.base.bk B2.out (by omega)).two
        obtain ⟨t0, t1, -, -, hl4⟩ := (hC.base.bk BT.out (by have := HGE.out; omega)).two
        clear hun hw hC
        go_simp
        exact still rfl (HC.out.skip (Mod.refl _ _) 11 (by decide))
      · intro L w' hun hw hC
        refine step_yes rfl ?_
        have HC := hid_ hC
        obtain ⟨y0, y1, -, -, hl2⟩ := (hC.base.bk B1.out (by omega)).two
        obtain ⟨z0, z1, -, -, hl3⟩ := (hC.base.bk B2.out (by omega)).two
        obtain ⟨t0, t1, -, -, hl4⟩ := (hC.base.bk BT.out (by have := HGE.out; omega)).two
        clear hun hw hC
        go_simp
        exact still rfl (HC.out.skip (Mod.refl _ _) 12 (by decide))
      · intro L w' hun hw hC
        refine step_yes rfl ?_
        have HC := hid_ hC
        clear hun hw hC
        go_simp
        exact still rfl (HC.out.skip (Mod.refl _ _) 13 (by decide))
      · intro L w' hun hw hC
        refine step_yes rfl ?_
        have HC := hid_ hC
        obtain ⟨y0, y1, -, -, hl2⟩ := (hC.base.bk B1.out (by omega)).two
        obtain ⟨z0, z1, -, -, hl3⟩ := (hC.base.bk B2.out (by omega)).two
        obtain ⟨t0, t1, -, -, hl4⟩ := (hC.base.bk BT.out (by have := HGE.out; omega)).two
        clear hun hw hC
        go_simp
        exact still rfl (HC.out.skip (Mod.refl _ _) 14 (by decide))
      · intro L w' hun hw hC
        refine step_yes rfl ?_
        have HC := hid_ hC
        clear hun hw hC
        go_simp
        exact still rfl (HC.out.skip (Mod.refl _ _) 15 (by decide))
      · intro L w' hun hw hC
        refine step_yes rfl ?_
        have HC := hid_ hC
        obtain ⟨y0, y1, -, -, hl2⟩ := (hC.base.bk B1.out (by omega)).two
        obtain ⟨z0, z1, -, -, hl3⟩ := (hC.base.bk B2.out (by omega)).two
        obtain ⟨t0, t1, -, -, hl4⟩ := (hC.base.bk BT.out (by have := HGE.out; omega)).two
        clear hun hw hC
        go_simp
        exact still rfl (HC.out.skip (Mod.refl _ _) 16 (by decide))
      · intro L w' hun hw hC
        refine step_yes rfl ?_
        have HC := hid_ hC
        clear hun hw hC
        go_simp
        exact still rfl (HC.out.skip (Mod.refl _ _) 17 (by decide))
      · intro L w' hun hw hC
        refine step_yes rfl ?_
        have HC := hid_ hC
        clear hun hw hC
        go_simp
        refine (RY.out _).mono ?_
        rintro e w3 ⟨rfl, hm⟩
        exact still rfl (HC.out.skip hm 18 (by decide))
      · intro L w' hun hw hC
        refine step_yes rfl ?_
        have HC := hid_ hC
        clear hun hw hC
        go_simp
        exact still rfl (HC.out.skip (Mod.refl _ _) 19 (by decide))
      · intro L w' hun hw hC
        refine step_yes rfl ?_
        have HC := hid_ hC
        clear hun hw hC
        go_simp
        exact still rfl (HC.out.skip (Mod.refl _ _) 20 (by decide))
      · intro L w' hun hw hC
        refine step_yes rfl ?_
        have HC := hid_ hC
        have HU := hid_ hun
        have hres := hC.res
        rw [getD_un hun] at hres
        obtain ⟨r0, r1, f0, f1, hlt0⟩ := hres.two
        clear hun hw hC hres
        go_simp
        exact still rfl (HC.out.put HU.out)
    · intro L w' hall hC
      have hb := hC.res
      rw [if_pos (hall 21 (by decide))] at hb
      obtain ⟨r0, r1, -, -, -⟩ := hb.two
      have HM := hid_ (HMT.out.trans hC.base (fun i hi h => by omega))
      clear hall hC hb
      go_wp2_with fail
      exact bodyPost_ret (v := ptV ⟨p.x + X, p.y + Y⟩) (by simp [results, Try.results37, go_sem, r0, r1]) rfl ⟨rfl, HM.out⟩

end Go.Proofs.Ytadiajlegajclaa
