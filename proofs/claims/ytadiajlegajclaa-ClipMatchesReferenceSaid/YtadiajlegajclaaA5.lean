/- slices.Compact at points. -/
import Derived.Test.YtadiajlegajclaaA4
import Derived.Test.YtadiajlegajclaaM2
import Derived.Laws.StructEq
import Derived.Laws.IdiomCopy
set_option linter.unusedVariables false
set_option linter.unusedSimpArgs false
namespace Go.Proofs.Ytadiajlegajclaa
open Go.RowKit

def ptEqB (p q : Pt) : Bool := decide (p = q)

theorem run_pt_eq (d : Nat) (w : World) (p q : Pt) : (Op.equalIn (d + 2) 24 (ptV p) (ptV q)).run Try.prog w = .ok (ptEqB p q) w := by
  rw [run_equalIn_struct (P := Try.prog) w _ 24 _ _ (by kernel_rfl) (by kernel_rfl)]
  obtain ⟨f, g, hfg, hf0, hf1, hf2, hg0, hg1, hg2⟩ : ∃ f g, (Try.prog.fieldsOf 24).toList = [f, g] ∧ f.name = "X" ∧ f.type = 3 ∧ f.offset = 0 ∧ g.name = "Y" ∧ g.type = 3 ∧ g.offset = 1 := ⟨(Try.prog.fieldsOf 24)[0]!, (Try.prog.fieldsOf 24)[1]!, by kernel_rfl, by kernel_rfl, by kernel_rfl, by kernel_rfl, by kernel_rfl, by kernel_rfl, by kernel_rfl⟩
  rw [hfg]
  simp only [Op.eqFields, hf0, hf1, hf2, hg0, hg1, hg2]
  go_simp
  unfold ptEqB
  by_cases hx : p.x = q.x
  · by_cases hy : p.y = q.y
    · rw [if_pos hx, if_pos hy, decide_eq_true (Pt.ext_ hx hy)]
    · rw [if_pos hx, if_neg hy, decide_eq_false (fun e => hy (by rw [e]))]
  · rw [if_neg hx, decide_eq_false (fun e => hx (by rw [e]))]

theorem ptEqB_iff {p q : Pt} : ptEqB p q = true ↔ p = q := by unfold ptEqB; rw [decide_eq_true_eq]

theorem Bk.some_ {w : World} {g : Nat} {t : TypeId} {cs : List Value} (h : Bk w g t cs) {i : Nat} (hi : i < cs.length) : (w.cell? ⟨g, i, none⟩).isSome = true := by
  rw [h.cell i, List.getElem?_eq_getElem hi]; rfl
theorem Bk.cells {t : TypeId} {g : Nat} : ∀ (vs : List Value) (o : Nat) {w : World} {cs : List Value}, Bk w g t cs → ∃ cs', Bk (w.setCells g o vs) g t cs' ∧ cs'.length = cs.length ∧ ∀ i, i < o → cs'[i]? = cs[i]?
  | [], o, w, cs, h => ⟨cs, h, rfl, fun _ _ => rfl⟩
  | v :: r, o, w, cs, h => by
    obtain ⟨cs', h1, h2, h3⟩ := Bk.cells r (o + 1) (h.set o v)
    refine ⟨cs', h1, by rw [h2, List.length_set], fun i hi => ?_⟩
    rw [h3 i (by omega), List.getElem?_set_ne (by omega)]
theorem Mod.cells {S : Nat → Prop} {w : World} {g : Nat} : ∀ (vs : List Value) (o : Nat) {w' : World}, Mod S w w' → S g → Mod S w (w'.setCells g o vs)
  | [], o, w', h, _ => h
  | v :: r, o, w', h, hg => Mod.cells r (o + 1) (h.setCell (p := ⟨g, o, none⟩) (fun _ => hg) v) hg

theorem run_clear_pts (w : World) (ty : TypeId) (b o n c : Nat) (hn : 0 < n) (hc : ∀ j, j < n * 2 → (w.cell? ⟨b, o + j, none⟩).isSome = true) (hf : ∀ j, w.frozen? ⟨b, j, none⟩ = false) :
    (Builtin.clear_ #[22] ty #[.slice (some ⟨b, o, none⟩) n c]).run Try.prog w = .ok (.tuple #[]) (w.setCells b o (Builtin.zeroCells #[.int .i64 0, .int .i64 0] n).toList) := by
  have hv : ∀ w, (zeroValue 24).run Try.prog w = .ok (.agg #[.int .i64 0, .int .i64 0]) w := fun w => by kernel_rfl
  have hl : (Builtin.zeroCells #[.int .i64 0, .int .i64 0] n).toList.length = n * 2 := by simp [Builtin.zeroCells]
  have h1 : ∀ v ∈ (Builtin.zeroCells #[.int .i64 0, .int .i64 0] n).toList, v.oneCell' = true := by
    intro v hv'
    simp [Builtin.zeroCells] at hv'
    obtain ⟨i, hi, rfl⟩ := hv'
    rcases Nat.mod_two_eq_zero_or_one i with h | h <;> simp [h, Value.oneCell']
  have hst := run_storeCells_cells (P := Try.prog) b o (Builtin.zeroCells #[.int .i64 0, .int .i64 0] n).toList 0 w (by rw [hl]; simpa using hc) (fun j _ => hf _) h1
  simp only [Nat.add_zero] at hst
  obtain ⟨m, rfl⟩ : ∃ m, n = m + 1 := ⟨n - 1, by omega⟩
  obtain ⟨Z, hZ⟩ : ∃ Z, Z = (Builtin.zeroCells #[.int .i64 0, .int .i64 0] (m + 1)).toList := ⟨_, rfl⟩
  rw [← hZ] at hst ⊢
  simp [Builtin.clear_, run_underlying Try.underlying22, hv, Value.cells, ← hZ, hst]

/-- Inside Compact: the block's first k points are those that stay of the first m of l; from place m - 1 on nothing has turned. -/
structure CompAt (w : World) (g cap : Nat) (l : List Pt) (k m : Nat) : Prop where
  cells : ∃ cs, Bk w g 24 cs ∧ cs.length = cap * 2 ∧ cs.take (k * 2) = ptCells (dd (l.take m)) ∧ ∀ j p, m - 1 ≤ j → l[j]? = some p → cs[j * 2]? = some (.int .i64 p.x) ∧ cs[j * 2 + 1]? = some (.int .i64 p.y)
  len : (dd (l.take m)).length = k
theorem CompAt.read {w : World} {g cap : Nat} {l : List Pt} {k m : Nat} (h : CompAt w g cap l k m) {j : Nat} {p : Pt} (hj : m - 1 ≤ j) (hp : l[j]? = some p) : w.cell? ⟨g, j * 2, none⟩ = some (.int .i64 p.x) ∧ w.cell? ⟨g, j * 2 + 1, none⟩ = some (.int .i64 p.y) := by
  obtain ⟨cs, hb, _, _, hr⟩ := h.cells
  obtain ⟨h0, h1⟩ := hr j p hj hp
  exact ⟨(hb.cell _).trans h0, (hb.cell _).trans h1⟩
theorem CompAt.drew {w : World} {g cap : Nat} {l : List Pt} {k m : Nat} (h : CompAt w g cap l k m) (n : Nat) : CompAt (w.drewN n) g cap l k m := by
  obtain ⟨⟨cs, hb, r⟩, hl⟩ := h
  exact ⟨⟨cs, hb.drewN n, r⟩, hl⟩
theorem CompAt.there {w : World} {g cap : Nat} {l : List Pt} {k m : Nat} (h : CompAt w g cap l k m) : (∀ j, j < cap * 2 → (w.cell? ⟨g, j, none⟩).isSome = true) ∧ (∀ j, w.frozen? ⟨g, j, none⟩ = false) ∧ g < w.heap.size := by
  obtain ⟨cs, hb, hl, _, _⟩ := h.cells
  exact ⟨fun j hj => hb.some_ (by omega), fun j => hb.frozen j, hb.lt⟩
/-- An equal neighbour is passed over. -/
theorem CompAt.pass {w : World} {g cap : Nat} {l : List Pt} {k m : Nat} (h : CompAt w g cap l k m) {p : Pt} (hp : l[m]? = some p) (hm : 0 < m) (hq : l[m - 1]? = some p) : CompAt w g cap l k (m + 1) := by
  have e : dd (l.take (m + 1)) = dd (l.take m) := by rw [dd_take_succ hp, if_pos ⟨hm, hq⟩]
  obtain ⟨cs, hb, hl, ht, hr⟩ := h.cells
  exact ⟨⟨cs, hb, hl, by rw [e]; exact ht, fun j q hj hq => hr j q (by omega) hq⟩, by rw [e]; exact h.len⟩
theorem take_two {cs : List Value} {k : Nat} {u v : Value} (h0 : k * 2 + 1 < cs.length) : ((cs.set (k * 2) u).set (k * 2 + 1) v).take ((k + 1) * 2) = cs.take (k * 2) ++ [u, v] := by
  apply List.ext_getElem?
  intro i
  rw [List.getElem?_take]
  by_cases h1 : i < k * 2
  · rw [if_pos (by omega), List.getElem?_set_ne (by omega), List.getElem?_set_ne (by omega), List.getElem?_append_left (by simp; omega), List.getElem?_take_of_lt h1]
  · by_cases h2 : i = k * 2
    · subst h2
      rw [if_pos (by omega), List.getElem?_set_ne (by omega), List.getElem?_set_self (by omega), List.getElem?_append_right (by simp; omega)]
      simp [Nat.min_eq_left (show k * 2 ≤ cs.length by omega)]
    · by_cases h3 : i = k * 2 + 1
      · subst h3
        rw [if_pos (by omega), List.getElem?_set_self (by simp; omega), List.getElem?_append_right (by simp; omega)]
        simp [Nat.min_eq_left (show k * 2 ≤ cs.length by omega)]
      · rw [if_neg (by omega), List.getElem?_eq_none (by simp; omega)]
/-- Another point is moved to place k. -/
theorem CompAt.move {w : World} {g cap : Nat} {l : List Pt} {k m : Nat} (h : CompAt w g cap l k m) {p q : Pt} (hp : l[m]? = some p) (hm : 0 < m) (hq : l[m - 1]? = some q) (hne : p ≠ q) (hkm : k < m) (hcap : m < cap) :
    CompAt ((w.setCell ⟨g, k * 2, none⟩ (.int .i64 p.x)).setCell ⟨g, k * 2 + 1, none⟩ (.int .i64 p.y)) g cap l (k + 1) (m + 1) := by
  have e : dd (l.take (m + 1)) = dd (l.take m) ++ [p] := by
    rw [dd_take_succ hp, if_neg]
    rintro ⟨_, he⟩
    rw [hq] at he
    injection he with he
    exact hne he.symm
  obtain ⟨cs, hb, hl, ht, hr⟩ := h.cells
  refine ⟨⟨_, (hb.set (k * 2) _).set (k * 2 + 1) _, by simpa using hl, ?_, fun j r hj hr' => ?_⟩, by rw [e]; simp [h.len]⟩
  · rw [take_two (by omega), ht, e, ptCells_append]
    rfl
  · obtain ⟨h0, h1⟩ := hr j r (by omega) hr'
    rw [List.getElem?_set_ne (by omega), List.getElem?_set_ne (by omega), List.getElem?_set_ne (by omega), List.getElem?_set_ne (by omega)]
    exact ⟨h0, h1⟩
theorem CompAt.stay {w : World} {g cap : Nat} {l : List Pt} {k : Nat} (h : CompAt w g cap l k k) {p q : Pt} (hp : l[k]? = some p) (hm : 0 < k) (hq : l[k - 1]? = some q) (hne : p ≠ q) : CompAt w g cap l (k + 1) (k + 1) := by
  have e : dd (l.take (k + 1)) = dd (l.take k) ++ [p] := by
    rw [dd_take_succ hp, if_neg]
    rintro ⟨_, he⟩
    rw [hq] at he
    injection he with he
    exact hne he.symm
  obtain ⟨cs, hb, hl, ht, hr⟩ := h.cells
  obtain ⟨h0, h1⟩ := hr k p (by omega) hp
  refine ⟨⟨cs, hb, hl, ?_, fun j r hj hr' => hr j r (by omega) hr'⟩, by rw [e]; simp [h.len]⟩
  rw [show (k + 1) * 2 = k * 2 + 1 + 1 by omega, List.take_add_one, List.take_add_one, ht, h0, h1, e, ptCells_append]
  simp [ptCells]
theorem CompAt.own {w : World} {g cap c : Nat} {l : List Pt} {k m : Nat} (h : CompAt w g cap l k m) (hk : k ≤ cap) (hm : cap ≤ maxLen) (hall : m = l.length) : OwnPts w (.slice (some ⟨g, 0, none⟩) k cap) (dd l) := by
  subst hall
  have hlen := h.len
  obtain ⟨cs, hb, hl, ht, hr⟩ := h.cells
  rw [List.take_of_length_le (Nat.le_refl _)] at hlen ht
  unfold OwnPts
  rw [hlen]
  refine ⟨by rw [ptCells_length, hlen], .inr ⟨g, cap, cs.toArray, rfl, Nat.zero_le _, hb, hk, hm, by simpa using hl, by simpa using ht⟩⟩

theorem CompAt.cut {w : World} {g cap : Nat} {l : List Pt} {k m : Nat} (h : CompAt w g cap l k m) (hk : k ≤ cap) (hm : cap ≤ maxLen) (hall : m = l.length) (vs : List Value) : OwnPts (w.setCells g (k * 2) vs) (.slice (some ⟨g, 0, none⟩) k cap) (dd l) := by
  subst hall
  have hlen := h.len
  obtain ⟨cs, hb, hl, ht, hr⟩ := h.cells
  rw [List.take_of_length_le (Nat.le_refl _)] at hlen ht
  obtain ⟨cs', hb', hl', he⟩ := Bk.cells vs (k * 2) hb
  unfold OwnPts
  rw [hlen]
  refine ⟨by rw [ptCells_length, hlen], .inr ⟨g, cap, cs'.toArray, rfl, Nat.zero_le _, hb', hk, hm, by simpa [hl'] using hl, ?_⟩⟩
  rw [← ht]
  apply List.ext_getElem?
  intro i
  show (cs'.take (k * 2))[i]? = _
  by_cases hi : i < k * 2
  · rw [List.getElem?_take_of_lt hi, List.getElem?_take_of_lt hi, he i hi]
  · rw [List.getElem?_eq_none (by simp; omega), List.getElem?_eq_none (by simp; omega)]

set_option maxHeartbeats 4000000 in
theorem compact_own {w : World} {g cap n : Nat} {l : List Pt} (hn : l.length = n) (h2 : 2 ≤ n) (hcap : n ≤ cap) (hcm : cap ≤ maxLen) (h : CompAt w g cap l 1 1) :
    Calls Try.prog 28 #[.slice (some ⟨g, 0, none⟩) n cap] w fun e w' => ∃ v', e = .returned v' ∧ OwnPts w' v' (dd l) ∧ (∀ k, v'.ownBlock = some k → k = g) ∧ Mod (fun k => k = g) w w' := by
  unfold maxLen at hcm
  have H := hid_ h
  have HN := hid_ hn
  have heq := run_pt_eq
  clear h hn
  go_enter Try.func28, Try.ntmps28
  go_wp2_with fail
  go_loopw [3] (fun t wr => ∃ k : Nat, 1 ≤ k ∧ k ≤ n ∧ t = .int .i64 k ∧ CompAt wr g cap l k k ∧ Mod (fun k => k = g) w wr) (fun t _ => n - (intOf t).toNat)
  case atStart => exact ⟨1, by omega, by omega, rfl, H.out, Mod.refl _ _⟩
  case round =>
    obtain ⟨k, hk1, hk, rfl, hc, hm⟩ := hrel
    have HC := hid_ hc
    have HM := hid_ hm
    clear hc hm
    by_cases hlt : k < n
    · obtain ⟨p, hp⟩ : ∃ p, l[k]? = some p := ⟨_, List.getElem?_eq_getElem (by rw [HN.out]; exact hlt)⟩
      obtain ⟨q, hq⟩ : ∃ q, l[k - 1]? = some q := ⟨_, List.getElem?_eq_getElem (by rw [HN.out]; omega)⟩
      obtain ⟨a0, a1⟩ := HC.out.read (j := k) (by omega) hp
      obtain ⟨b0, b1⟩ := HC.out.read (j := k - 1) (by omega) hq
      have HP := hid_ hp
      have HQ := hid_ hq
      have v1 : IntKind.i64.wrap ((k : Int) - 1) = (k : Int) - 1 := IntWalk.i64_in _ (by omega)
      have v2 : ((k : Int) - 1).toNat = k - 1 := by omega
      have v3 : (0 : Int) ≤ (k : Int) - 1 := by omega
      have v4 : (k : Int) - 1 < n := by omega
      have v5 : (0 : Int) ≤ (k : Int) := by omega
      have v6 : (k : Int) < n := by omega
      clear hp hq
      go_wp2_with fail
      go_quiet (fail)
      clear v1 v2 v3 v4 v5 v6 a0 a1 b0 b1
      cases hpq : ptEqB p q
      · have hne : p ≠ q := fun e => by rw [ptEqB_iff.2 e] at hpq; cases hpq
        go_wp2
        go_roundw
        case rel =>
          exact ⟨k + 1, by omega, by omega, by go_num, (HC.out.stay HP.out (by omega) HQ.out hne).drew _, HM.out.drewN _⟩
        case measure => simp [intOf]; omega
      · have heqp : p = q := ptEqB_iff.1 hpq
        subst heqp
        have HC1 := hid_ (HC.out.pass HP.out (by omega) HQ.out)
        go_wp2_with fail
        obtain ⟨wo, hwo⟩ : ∃ wo : World, wo = wr.drewN nq := ⟨_, rfl⟩
        have HCo := hid_ (show CompAt wo g cap l k (k + 1) by rw [hwo]; exact HC1.out.drew _)
        have HMo := hid_ (show Mod (fun k => k = g) w wo by rw [hwo]; exact HM.out.drewN _)
        rw [← hwo]
        clear hwo hpq
        go_loopw [3, 5] (fun t t5 wr => ∃ k' k2 : Nat, 1 ≤ k2 ∧ k2 ≤ n - k ∧ 1 ≤ k' ∧ k' < k + k2 ∧ t = .int .i64 k' ∧ t5 = .int .i64 k2 ∧ CompAt wr g cap l k' (k + k2) ∧ Mod (fun k => k = g) w wr) (fun _ t5 _ => n - k - (intOf t5).toNat)
        case atStart => exact ⟨k, 1, by omega, by omega, by omega, by omega, rfl, rfl, HCo.out, HMo.out⟩
        case round =>
          obtain ⟨k', k2, h21, h22, h23, h24, rfl, rfl, hc2, hm2⟩ := hrel
          have HC2 := hid_ hc2
          have HM2 := hid_ hm2
          clear hc2 hm2
          by_cases hl2 : k2 < n - k
          · obtain ⟨p2, hp2⟩ : ∃ p2, l[k + k2]? = some p2 := ⟨_, List.getElem?_eq_getElem (by rw [HN.out]; omega)⟩
            obtain ⟨q2, hq2⟩ : ∃ q2, l[k + k2 - 1]? = some q2 := ⟨_, List.getElem?_eq_getElem (by rw [HN.out]; omega)⟩
            obtain ⟨a0, a1⟩ := HC2.out.read (j := k + k2) (by omega) hp2
            obtain ⟨b0, b1⟩ := HC2.out.read (j := k + k2 - 1) (by omega) hq2
            have HP2 := hid_ hp2
            have HQ2 := hid_ hq2
            rw [show (k + k2) * 2 = k * 2 + k2 * 2 by omega] at a0 a1
            rw [show (k + k2 - 1) * 2 = k * 2 + (k2 - 1) * 2 by omega] at b0 b1
            have v1 : IntKind.i64.wrap ((k2 : Int) - 1) = (k2 : Int) - 1 := IntWalk.i64_in _ (by omega)
            have v2 : ((k2 : Int) - 1).toNat = k2 - 1 := by omega
            have v3 : (0 : Int) ≤ (k2 : Int) - 1 := by omega
            have v4 : (k2 : Int) - 1 < (n - k : Nat) := by omega
            have v5 : (0 : Int) ≤ (k2 : Int) := by omega
            have v6 : (k2 : Int) < (n - k : Nat) := by omega
            clear hp2 hq2
            go_wp2_with fail
            go_quiet (fail)
            clear v1 v2 v3 v4 v5 v6 b0 b1
            cases hpq : ptEqB p2 q2
            · have hne : p2 ≠ q2 := fun e => by rw [ptEqB_iff.2 e] at hpq; cases hpq
              obtain ⟨c1, f1, hg1⟩ := HC2.out.there
              obtain ⟨z0, hz0⟩ := Option.isSome_iff_exists.1 (c1 (k' * 2) (by omega))
              obtain ⟨z1, hz1⟩ := Option.isSome_iff_exists.1 (c1 (k' * 2 + 1) (by omega))
              have fz0 := f1 (k' * 2)
              have fz1 := f1 (k' * 2 + 1)
              have v7 : (k' : Int) < n := by omega
              clear c1 f1
              go_wp2
              go_roundw
              case rel => exact ⟨k' + 1, k2 + 1, by omega, by omega, by omega, by omega, by go_num, by go_num, (HC2.out.drew _).move HP2.out (by omega) HQ2.out hne (by omega) (by omega), ((HM2.out.drewN _).setCell (fun _ => rfl) _).setCell (fun _ => rfl) _⟩
              case measure => simp [intOf]; omega
            · have he2 : p2 = q2 := ptEqB_iff.1 hpq
              subst he2
              go_wp2
              go_roundw
              case rel => exact ⟨k', k2 + 1, by omega, by omega, by omega, by omega, rfl, by go_num, (HC2.out.pass HP2.out (by omega) HQ2.out).drew _, HM2.out.drewN _⟩
              case measure => simp [intOf]; omega
          · have hkn : k2 = n - k := by omega
            subst hkn
            obtain ⟨c1, f1, hg1⟩ := HC2.out.there
            have hcl := fun ty => run_clear_pts wr ty g (k' * 2) (n - k') (cap - k') (by omega) (fun j hj => c1 _ (by omega)) f1
            clear c1 f1
            go_wp2
            go_returns
            exact ⟨_, rfl, HC2.out.cut (by omega) (by unfold maxLen; omega) (by rw [HN.out]; omega) _, fun k hk => by simpa [Value.ownBlock] using hk.symm, HM2.out.cells _ _ rfl⟩
    · have hkn : k = n := by omega
      subst hkn
      go_wp2
      go_returns
      exact ⟨_, rfl, HC.out.own (c := 0) hcap (by unfold maxLen; omega) HN.out.symm, fun k hk => by simpa [Value.ownBlock] using hk.symm, HM.out⟩

set_option maxHeartbeats 400000 in
theorem compact_any {w : World} {v : Value} {l : List Pt} (h : OwnPts w v l) : Calls Try.prog 28 #[v] w fun e w' => ∃ v', e = .returned v' ∧ OwnPts w' v' (dd l) ∧ (∀ k, v'.ownBlock = some k → v.ownBlock = some k) ∧ Mod (fun k => v.ownBlock = some k) w w' := by
  by_cases h2 : 2 ≤ l.length
  · rcases h.2 with ⟨rfl, hn⟩ | ⟨g, cap, cur, rfl, hb, hh, hnc, hcm, hcs, ht⟩
    · omega
    · have hc : CompAt w g cap l 1 1 := by
        obtain ⟨p, hp⟩ : ∃ p, l[0]? = some p := ⟨_, List.getElem?_eq_getElem (by omega)⟩
        have e : dd (l.take 1) = [p] := by rw [dd_take_succ hp, if_neg (by omega)]; rfl
        have at_ : ∀ i, i < l.length * 2 → cur.toList[i]? = (ptCells l)[i]? := fun i hi => by rw [← ht, List.getElem?_take_of_lt hi]
        refine ⟨⟨cur.toList, hh, by simpa using hcs, ?_, fun j q _ hq => ?_⟩, by rw [e]; rfl⟩
        · rw [e]
          obtain ⟨h0, h1⟩ := ptCells_at l 0 p hp
          rw [show 1 * 2 = 0 + 1 + 1 by rfl, List.take_add_one, List.take_add_one, at_ 0 (by omega), at_ (0 + 1) (by omega)]
          simp only [Nat.zero_mul] at h0 h1
          rw [h0, h1]
          simp [ptCells]
        · have hj : j < l.length := (List.getElem?_eq_some_iff.1 hq).1
          obtain ⟨h0, h1⟩ := ptCells_at l j q hq
          exact ⟨(at_ _ (by omega)).trans h0, (at_ _ (by omega)).trans h1⟩
      refine (compact_own rfl h2 hnc hcm hc).mono ?_
      rintro e w' ⟨v', rfl, ho, hb', hm⟩
      exact ⟨v', rfl, ho, fun k hk => by rw [hb' k hk]; rfl, hm.mono (fun k _ hk => by rw [hk]; rfl)⟩
  · have e : dd l = l := dd_short (by omega)
    obtain ⟨A, c, rfl, _, _⟩ := h.form
    have H := hid_ h
    have hlt : (l.length : Int) < 2 := by omega
    rw [e]
    clear h e
    go_enter Try.func28, Try.ntmps28
    go_wp2
    go_returns
    exact ⟨_, rfl, H.out, fun _ h => h, Mod.refl _ _⟩
end Go.Proofs.Ytadiajlegajclaa
