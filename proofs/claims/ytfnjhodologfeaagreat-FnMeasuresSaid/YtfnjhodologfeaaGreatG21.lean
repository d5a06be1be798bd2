/- Parts of the proof: M12, M13, K5, D1, D2. -/
import Derived.Test.YtfnjhodologfeaaGreatG20
import Derived.Test.YtfnjhodologfeaaGreatG16
import Derived.Laws.Bits64b
set_option linter.unusedSimpArgs false
set_option linter.unusedVariables false
/- a proof is regular just if its unfolding is -/
namespace Go.Proofs.YtfnjhodologfeaaGreat
open Go.RowKit

/-- the value of regularity at a step -/
def rg (ss : List RS) (x : Int) : Bool := regR ss (x.toNat + 1) x
theorem rg_at {ss : List RS} (hpre : PreOk ss) {k : Nat} (hk : k < ss.length) : rg ss (k : Int) = if axB ss[k] = true then true else if resB ss[k] = true then !(irrS (pivTo ss ss.length) ss[k]) && rg ss ss[k].left && rg ss ss[k].right else rg ss ss[k].left := by
  have hs : ss[k]? = some ss[k] := List.getElem?_eq_getElem hk
  have hp := hpre k _ hs
  unfold rg
  rw [Int.toNat_natCast, regR, Int.toNat_natCast, hs]
  simp only []
  cases ha : axB ss[k]
  · obtain ⟨l0, l1⟩ := hp _ (prem_left ha)
    rw [regR_fuel hpre k (ss[k].left.toNat + 1) _ l0 l1 (by omega)]
    cases hr : resB ss[k]
    · rfl
    · obtain ⟨r0, r1⟩ := hp _ (prem_right ha hr)
      rw [regR_fuel hpre k (ss[k].right.toNat + 1) _ r0 r1 (by omega)]
      have e1 := piv_pv hpre ss[k].left.toNat (by omega)
      have e2 := piv_pv hpre ss[k].right.toNat (by omega)
      rw [Int.toNat_of_nonneg l0] at e1
      rw [Int.toNat_of_nonneg r0] at e2
      rw [pv_fuel hpre k (ss[k].left.toNat + 1) _ l0 l1 (by omega), pv_fuel hpre k (ss[k].right.toNat + 1) _ r0 r1 (by omega), ← e1, ← e2]
      simp [irrS, hr]
  · rfl
theorem regB_rg {ss : List RS} (hpre : PreOk ss) (hpos : 0 < ss.length) : regB ss = rg ss ((ss.length : Int) - 1) := by
  have hbd := needL_bd ss
  cases h : rg ss ((ss.length : Int) - 1)
  · -- some needed step is irregular
    cases hB : regB ss
    · rfl
    · exfalso
      unfold regB at hB
      rw [List.all_eq_true] at hB
      have key : ∀ k : Nat, (k : Int) ∈ needL ss → rg ss (k : Int) = true := by
        intro k
        induction k using Nat.strongRecOn with
        | ind k ih =>
          intro hm
          have hk : k < ss.length := by have := hbd _ hm; omega
          have hs : ss[k]? = some ss[k] := List.getElem?_eq_getElem hk
          have hp := hpre k _ hs
          have hi := hB _ hm
          unfold irrB at hi
          rw [Int.toNat_natCast, hs] at hi
          rw [rg_at hpre hk]
          cases ha : axB ss[k]
          · obtain ⟨l0, l1⟩ := hp _ (prem_left ha)
            have hl := ih ss[k].left.toNat (by omega) (by rw [Int.toNat_of_nonneg l0]; exact need_prem hpre hm (by rw [Int.toNat_natCast]; exact hs) (prem_left ha))
            rw [Int.toNat_of_nonneg l0] at hl
            cases hr : resB ss[k]
            · simpa using hl
            · obtain ⟨r0, r1⟩ := hp _ (prem_right ha hr)
              have hr' := ih ss[k].right.toNat (by omega) (by rw [Int.toNat_of_nonneg r0]; exact need_prem hpre hm (by rw [Int.toNat_natCast]; exact hs) (prem_right ha hr))
              rw [Int.toNat_of_nonneg r0] at hr'
              simp only [Bool.false_eq_true, if_false, if_true, hl, hr', Bool.and_true]
              exact hi
          · rfl
      have hl := need_last hpos
      have := key (ss.length - 1) (by rw [show ((ss.length - 1 : Nat) : Int) = (ss.length : Int) - 1 by omega]; exact hl)
      rw [show ((ss.length - 1 : Nat) : Int) = (ss.length : Int) - 1 by omega, h] at this
      cases this
  · -- all needed steps are regular
    unfold regB
    rw [List.all_eq_true]
    have key : ∀ d k : Nat, k + d = ss.length - 1 → (k : Int) ∈ needL ss → rg ss (k : Int) = true := by
      intro d
      induction d using Nat.strongRecOn with
      | ind d ih =>
        intro k hd hm
        rcases need_why hm with e | ⟨y, hy, s, hs, hx⟩
        · rw [e]; exact h
        · obtain ⟨y0, y1⟩ := hbd y hy
          obtain ⟨j, rfl⟩ := Int.eq_ofNat_of_zero_le y0
          rw [Int.toNat_natCast] at hs
          have hj : j < ss.length := by omega
          have hss : s = ss[j] := by rw [List.getElem?_eq_getElem hj] at hs; injection hs with e; exact e.symm
          subst hss
          obtain ⟨_, hlt⟩ := hpre j _ hs _ hx
          have hrj := ih (ss.length - 1 - j) (by omega) j (by omega) hy
          rw [rg_at hpre hj] at hrj
          cases ha : axB ss[j]
          · rw [ha] at hrj
            cases hr : resB ss[j]
            · rw [hr] at hrj
              rw [premL_wk ha hr] at hx
              simp at hx
              rw [hx]
              simpa using hrj
            · rw [hr] at hrj
              rw [premL_res ha hr] at hx
              simp only [Bool.false_eq_true, if_false, if_true, Bool.and_eq_true] at hrj
              simp at hx
              rcases hx with hx | hx
              · rw [hx]; exact hrj.1.2
              · rw [hx]; exact hrj.2
          · rw [premL_ax ha] at hx
            simp at hx
    intro x hx
    obtain ⟨x0, x1⟩ := hbd x hx
    obtain ⟨k, rfl⟩ := Int.eq_ofNat_of_zero_le x0
    have hk : k < ss.length := by omega
    have hr := key (ss.length - 1 - k) k (by omega) hx
    rw [rg_at hpre hk] at hr
    unfold irrB
    rw [Int.toNat_natCast, List.getElem?_eq_getElem hk]
    cases hrb : resB ss[k]
    · simp [irrS, hrb]
    · have ha : axB ss[k] = false := by cases ha : axB ss[k] with
        | false => rfl
        | true => have := res_ax ha; rw [hrb] at this; cases this
      rw [ha, hrb] at hr
      simp only [Bool.false_eq_true, if_false, if_true, Bool.and_eq_true] at hr
      exact hr.1.1
theorem reg_same {f : CNF} {ss : List RS} (ht : takesB f ss = true) (hl : (unfOf ss).length ≤ 200) : regB (unfOf ss) = regB ss := by
  obtain ⟨h1, h2, _⟩ := takes_unf ht hl
  obtain ⟨⟨hp, _, _⟩, _⟩ := takes_corr ht
  rw [regB_rg (takes_pre h1) h2, regB_rg (takes_pre ht) hp]
  have h3 := (reg_unf ht ss.length ((ss.length : Int) - 1) [] (by omega) (by omega) (by omega) (fun k hk => by simp at hk)).2
  unfold rg
  rw [show (((unfOf ss).length : Int) - 1).toNat + 1 = (unfOf ss).length by omega, show ((ss.length : Int) - 1).toNat + 1 = ss.length by omega]
  exact h3
end Go.Proofs.YtfnjhodologfeaaGreat
/- what the law FnMeasures asks of an unfolding, in one place -/
namespace Go.Proofs.YtfnjhodologfeaaGreat
open Go.RowKit

theorem told_le {f : CNF} {ss : List RS} (h : tellsB f ss = true) : ∀ k : Nat, k < ss.length → getI (sumL axN 1000000 ss) (k : Int) ≤ 1000000 := by
  intro k hk
  unfold tellsB leavesO at h
  simp only [Bool.and_eq_true] at h
  obtain ⟨_, h⟩ := h
  split at h
  · rename_i h2
    rw [List.all_eq_true] at h2
    have hl : (sumL axN 1000000 ss).length = ss.length := buildTo_length _ _ _
    have hk2 : k < (sumL axN 1000000 ss).length := by omega
    have := h2 _ (List.getElem_mem hk2)
    rw [getI_at (List.getElem?_eq_getElem hk2)]
    simpa using this
  · simp at h
theorem last_leaves {f : CNF} {ss : List RS} (ht : takesB f ss = true) (h : tellsB f ss = true) : axs (unfOf ss) = getI (sumL axN 1000000 ss) ((ss.length : Int) - 1) := by
  obtain ⟨⟨hp, _, _⟩, _⟩ := takes_corr ht
  have h1 := told_le h (ss.length - 1) (by omega)
  have h2 := sums_lvs (takes_pre ht) (ss.length - 1) (by omega)
  rw [show ((ss.length - 1 : Nat) : Int) = (ss.length : Int) - 1 by omega] at h1 h2
  rw [show ss.length - 1 + 1 = ss.length by omega] at h2
  have h3 := axs_unf ht ss.length ((ss.length : Int) - 1) [] (by omega) (by omega) (by omega) (fun k hk => by simp at hk)
  have h4 : axs [] = 0 := rfl
  unfold unfOf
  omega
theorem last_depth {f : CNF} {ss : List RS} (ht : takesB f ss = true) (hl : (unfOf ss).length ≤ 200) : getI (depL (unfOf ss)) (((unfOf ss).length : Int) - 1) = getI (depL ss) ((ss.length : Int) - 1) := by
  obtain ⟨h1, h2, _⟩ := takes_unf ht hl
  obtain ⟨⟨hp, _, _⟩, _⟩ := takes_corr ht
  have d1 := dep_dpt (takes_pre h1) ((unfOf ss).length - 1) (by omega)
  have d2 := dep_dpt (takes_pre ht) (ss.length - 1) (by omega)
  rw [show (((unfOf ss).length - 1 : Nat) : Int) = ((unfOf ss).length : Int) - 1 by omega, show (unfOf ss).length - 1 + 1 = (unfOf ss).length by omega] at d1
  rw [show ((ss.length - 1 : Nat) : Int) = (ss.length : Int) - 1 by omega, show ss.length - 1 + 1 = ss.length by omega] at d2
  have d3 := dpt_unf ht ss.length ((ss.length : Int) - 1) [] (by omega) (by omega) (by omega) (fun k hk => by simp at hk)
  rw [d1, d2, ← d3]
  rfl
theorem last_bound {f : CNF} {ss : List RS} (ht : takesB f ss = true) : getI (sumL axN 1000000 ss) ((ss.length : Int) - 1) ≤ ((2 ^ (getI (depL ss) ((ss.length : Int) - 1)).toNat : Nat) : Int) := by
  obtain ⟨⟨hp, _, _⟩, _⟩ := takes_corr ht
  have h2 := sums_lvs (takes_pre ht) (ss.length - 1) (by omega)
  have d2 := dep_dpt (takes_pre ht) (ss.length - 1) (by omega)
  rw [show ((ss.length - 1 : Nat) : Int) = (ss.length : Int) - 1 by omega, show ss.length - 1 + 1 = ss.length by omega] at h2 d2
  have h3 := lvs_dpt ss ss.length ((ss.length : Int) - 1)
  rw [d2, Int.toNat_natCast]
  omega
end Go.Proofs.YtfnjhodologfeaaGreat
/- the cursor of the drawers -/
namespace Go.Proofs.YtfnjhodologfeaaGreat
open Go.RowKit

/-- no block of this type is turned by the drawers -/
def goodT (T : Nat) : Bool := !([3, 33, 40, 26, 63, 4, 9].contains T)
theorem goodT_ne {T e : Nat} (h : goodT T = true) (he : goodT e = false) : e ≠ T := by
  rintro rfl
  rw [he] at h
  exact Bool.noConfusion h
/-- 'v' is a []byte that reads as bs; its row may be of another type that holds bytes. -/
def Byts (w : World) (v : Value) (bs : List Int) : Prop := (∃ T, goodT T = true ∧ Sl w v T 1 bs.length (bs.map (Value.int .u8))) ∧ ∀ b ∈ bs, 0 ≤ b ∧ b ≤ 255
theorem Byts.ext {w w' : World} {v : Value} {bs : List Int} (h : Byts w v bs) (hx : Ext w w') : Byts w' v bs := by
  obtain ⟨⟨T, hT, h1⟩, h2⟩ := h
  exact ⟨⟨T, hT, h1.ext hx⟩, h2⟩
theorem Sl.turned {w w' : World} {v : Value} {e sz n : Nat} {cs : List Value} (h : Sl w v e sz n cs) {row : Option Nat} (hg : w.grownBy w' row) (hT : ∀ b, row = some b → ∃ cur fz T, w.heap[b]? = some (.cells cur T fz) ∧ T ≠ e) : Sl w' v e sz n cs := by
  obtain ⟨h1, base, cap, h2, h3, h4, h5⟩ := h
  refine ⟨h1, base, cap, h2, h3, h4, ?_⟩
  rcases h5 with h5 | ⟨b, off, h5, h6⟩
  · exact .inl h5
  · refine .inr ⟨b, off, h5, h6.of_block (World.grownBy.block hg b h6.lt (fun e => ?_))⟩
    obtain ⟨cur, fz, T, h7, h8⟩ := hT b e.symm
    obtain ⟨cur', fz', h9, _⟩ := h6
    rw [h7] at h9
    injection h9 with h9
    injection h9 with _ h10 _
    exact h8 h10
/-- a block of a turned type turns -/
theorem Byts.turned {w w' : World} {v : Value} {bs : List Int} (h : Byts w v bs) {row : Option Nat} (hg : w.grownBy w' row) (hT : ∀ T, goodT T = true → ∀ b, row = some b → ∃ cur fz T', w.heap[b]? = some (.cells cur T' fz) ∧ T' ≠ T) : Byts w' v bs := by
  obtain ⟨⟨T, hgT, h1⟩, h2⟩ := h
  exact ⟨⟨T, hgT, h1.turned hg (hT T hgT)⟩, h2⟩
theorem Byts.open {w : World} {v : Value} {bs : List Int} (h : Byts w v bs) : ∃ base cap, v = .slice base bs.length cap ∧ bs.length ≤ cap ∧ cap ≤ 9223372036854775807 ∧
    (∀ j, j < bs.length → ∃ b off, base = some ⟨b, off, none⟩ ∧ b < w.heap.size ∧ ∀ i, i < bs.length → ∃ x, bs[i]? = some x ∧ 0 ≤ x ∧ x ≤ 255 ∧ w.cell? ⟨b, off + i, none⟩ = some (.int .u8 x)) := by
  obtain ⟨⟨T, hgT, h1, base, cap, h2, h3, h4, h5⟩, hb⟩ := h
  refine ⟨base, cap, h2, h3, by simpa [maxLen] using h4, ?_⟩
  intro j hj
  rcases h5 with h5 | ⟨b, off, h5, h6⟩
  · omega
  · refine ⟨b, off, h5, h6.lt, fun i hi => ⟨bs[i], by simp [hi], (hb _ (List.getElem_mem hi)).1, (hb _ (List.getElem_mem hi)).2, ?_⟩⟩
    rw [h6.cell i (by simpa using hi)]
    simp

/-- a cursor in block g, with at most m draws -/
def Cur (w : World) (g m : Nat) : Prop := ∃ (u : Value) (bs : List Int) (a sd : Int), w.heap[g]? = some (.cells #[u, .int .i64 a, .int .u64 sd] 63 (0, 0)) ∧ Byts w u bs ∧ 0 ≤ a ∧ a ≤ m
theorem Cur.mono {w : World} {g m m' : Nat} (h : Cur w g m) (hm : m ≤ m') : Cur w g m' := by
  obtain ⟨u, bs, a, sd, h1, h2, h3, h4⟩ := h
  exact ⟨u, bs, a, sd, h1, h2, h3, by omega⟩
theorem Cur.lt {w : World} {g m : Nat} (h : Cur w g m) : g < w.heap.size := by
  obtain ⟨u, bs, a, sd, h1, _⟩ := h
  exact (Array.getElem?_eq_some_iff.1 h1).1
theorem Cur.ext {w w' : World} {g m : Nat} (h : Cur w g m) (hx : Ext w w') : Cur w' g m := by
  have hl := h.lt
  obtain ⟨u, bs, a, sd, h1, h2, h3, h4⟩ := h
  exact ⟨u, bs, a, sd, by rw [hx.block hl]; exact h1, h2.ext hx, h3, h4⟩
theorem Cur.kept {w w' : World} {g m k : Nat} (h : Cur w g m) (hx : Keep k w w') (hk : k ≠ g) (hT : ∃ cur fz T, w.heap[k]? = some (.cells cur T fz) ∧ goodT T = false) : Cur w' g m := by
  have hl := h.lt
  obtain ⟨u, bs, a, sd, h1, h2, h3, h4⟩ := h
  exact ⟨u, bs, a, sd, by rw [World.grownBy.block hx g hl (fun e => hk (by injection e with e; exact e.symm))]; exact h1, h2.turned hx (fun T0 hg0 b e => by injection e with e; subst e; obtain ⟨x1, x2, x3, x4, x5⟩ := hT; exact ⟨x1, x2, x3, x4, goodT_ne hg0 x5⟩), h3, h4⟩
theorem Cur.blk {w : World} {g m : Nat} (h : Cur w g m) {e : Nat} (he : 63 ≠ e) : ∀ b, some g = some b → ∃ cur fz T, w.heap[b]? = some (.cells cur T fz) ∧ T ≠ e := by
  obtain ⟨u, bs, a, sd, h1, _⟩ := h
  intro b hb
  injection hb with hb
  subst hb
  exact ⟨_, _, _, h1, he⟩
/-- what a draw leaves as it was -/
theorem Cur.ints {w w' : World} {g m : Nat} (h : Cur w g m) (hk : Keep g w w') {v : Value} {xs : List Int} (hv : Ints w v xs) : Ints w' v xs := Sl.turned hv hk (h.blk (by decide))
theorem Cur.lists {w w' : World} {g m : Nat} (h : Cur w g m) (hk : Keep g w w') {v : Value} {xs : List (List Int)} (hv : Lists w v xs) : Lists w' v xs := by
  obtain ⟨vs, h1, h2, h3⟩ := hv
  exact ⟨vs, h1, h2.turned hk (h.blk (by decide)), fun i u xs a b => h.ints hk (h3 i u xs a b)⟩
theorem Cur.cnf {w w' : World} {g m : Nat} (h : Cur w g m) (hk : Keep g w w') {v : Value} {f : CNF} (hv : CnfV w v f) : CnfV w' v f := by
  obtain ⟨cv, h1, h2⟩ := hv
  exact ⟨cv, h1, h.lists hk h2⟩
theorem Cur.steps {w w' : World} {g m : Nat} (h : Cur w g m) (hk : Keep g w w') {v : Value} {ss : List RS} (hv : Steps w v ss) : Steps w' v ss := by
  obtain ⟨vs, h1, h2, h3⟩ := hv
  exact ⟨vs, h1, h2.turned hk (h.blk (by decide)), fun i u xs a b => h.ints hk (h3 i u xs a b)⟩
/-- the cursor's cells -/
theorem Cur.cells {w : World} {g m : Nat} (h : Cur w g m) : ∃ (u : Value) (bs : List Int) (a sd : Int), w.cell? ⟨g, 0, none⟩ = some u ∧ w.cell? ⟨g, 1, none⟩ = some (.int .i64 a) ∧ w.cell? ⟨g, 2, none⟩ = some (.int .u64 sd) ∧
    w.frozen? ⟨g, 1, none⟩ = false ∧ w.frozen? ⟨g, 2, none⟩ = false ∧ Byts w u bs ∧ 0 ≤ a ∧ a ≤ m ∧
    ∀ w0 a' sd', Ext w w0 → 0 ≤ a' → Keep g w ((w0.setCell ⟨g, 1, none⟩ (.int .i64 a')).setCell ⟨g, 2, none⟩ (.int .u64 sd')) ∧ Cur ((w0.setCell ⟨g, 1, none⟩ (.int .i64 a')).setCell ⟨g, 2, none⟩ (.int .u64 sd')) g a'.toNat := by
  have h0 := h
  obtain ⟨u, bs, a, sd, h1, h2, h3, h4⟩ := h
  refine ⟨u, bs, a, sd, by simp [World.cell?, h1], by simp [World.cell?, h1], by simp [World.cell?, h1], frozen_of_row w g 1 _ _ h1, frozen_of_row w g 2 _ _ h1, h2, h3, h4, fun w0 a' sd' hx0 ha => ?_⟩
  have hk : Keep g w ((w0.setCell ⟨g, 1, none⟩ (.int .i64 a')).setCell ⟨g, 2, none⟩ (.int .u64 sd')) := ((Keep.of_ext hx0).set 1 _).set 2 _
  refine ⟨hk, u, bs, a', sd', ?_, h2.turned hk (fun T0 hg0 => h0.blk (goodT_ne hg0 (by decide))), ha, by omega⟩
  have h10 : w0.heap[g]? = some (.cells #[u, .int .i64 a, .int .u64 sd] 63 (0, 0)) := by rw [hx0.block h0.lt]; exact h1
  have e1 : (w0.setCell ⟨g, 1, none⟩ (.int .i64 a')).heap[g]? = some (.cells #[u, .int .i64 a', .int .u64 sd] 63 (0, 0)) := heap_setCell_same w0 g 1 _ _ _ h10
  exact heap_setCell_same _ g 2 _ _ _ e1

/-- read while the cursor turns -/
theorem Cur.openI {w : World} {g m : Nat} (h : Cur w g m) {v : Value} {xs : List Int} (hv : Ints w v xs) : ∃ base cap, v = .slice base xs.length cap ∧ xs.length ≤ cap ∧ cap ≤ 9223372036854775807 ∧
    (∀ j, j < xs.length → ∃ b off, base = some ⟨b, off, none⟩ ∧ b < w.heap.size ∧ b ≠ g ∧ ∀ i, i < xs.length → ∃ x, xs[i]? = some x ∧ ∀ w', Keep g w w' → w'.cell? ⟨b, off + i, none⟩ = some (.int .i64 x)) := by
  obtain ⟨u, bs, a, sd, hg, _⟩ := h
  obtain ⟨h1, base, cap, h2, h3, h4, h5⟩ := hv
  refine ⟨base, cap, h2, h3, by simpa [maxLen] using h4, ?_⟩
  intro j hj
  rcases h5 with h5 | ⟨b, off, h5, h6⟩
  · omega
  · have hne : b ≠ g := by
      intro e
      subst e
      obtain ⟨cur', fz', h9, _⟩ := h6
      rw [hg] at h9
      injection h9 with h9
      injection h9 with _ h10 _
      exact absurd h10 (by decide)
    refine ⟨b, off, h5, h6.lt, hne, fun i hi => ⟨xs[i], by simp [hi], fun w' hx => ?_⟩⟩
    have := hx.cell (h6.cell i (by simpa using hi)) hne
    rw [this]
    simp [hi]
theorem seed_byte (y : Int) : 0 ≤ wrap64 (bits .and .u64 (IntKind.u64.wrap y / 1099511627776) 255) ∧ wrap64 (bits .and .u64 (IntKind.u64.wrap y / 1099511627776) 255) ≤ 255 := by
  rw [IntKind.wrap_u64]
  have h1 : 0 ≤ y % 18446744073709551616 / 1099511627776 ∧ y % 18446744073709551616 / 1099511627776 < 18446744073709551616 := by omega
  generalize y % 18446744073709551616 / 1099511627776 = z at h1
  obtain ⟨k, rfl⟩ := Int.eq_ofNat_of_zero_le h1.1
  have h2 := bits_and_u64_nat k 255 (by omega) (by omega)
  have h3 : k &&& 255 ≤ 255 := Nat.and_le_right
  rw [show ((255 : Nat) : Int) = 255 from rfl] at h2
  rw [h2, IntWalk.wrap64_in _ ⟨by omega, by omega⟩]
  omega

set_option maxRecDepth 100000 in
set_option maxHeartbeats 2000000 in
theorem next_any (g m : Nat) (w : World) (hc : Cur w g m) (hm : m ≤ 1000000000000) :
    Calls Tryz.prog 120 #[.pointer (some ⟨g, 0, none⟩)] w fun e w' => ∃ r : Int, e = .returned (.int .i64 r) ∧ 0 ≤ r ∧ r ≤ 255 ∧ Keep g w w' ∧ Cur w' g (m + 1) := by
  obtain ⟨u, bs, a, sd, c0, c1, c2, f1, f2, hb, ha0, ham, hset⟩ := hc.cells
  obtain ⟨base, cap, rfl, hc1, hc2, hcell⟩ := hb.open
  have hw1 : IntKind.i64.wrap (a + 1) = a + 1 := IntWalk.i64_in _ ⟨by omega, by omega⟩
  by_cases hlt : a < bs.length
  · obtain ⟨b, off, rfl, hbl, hx⟩ := hcell a.toNat (by omega)
    obtain ⟨x, hx0, hx1, hx2, hx3⟩ := hx a.toNat (by omega)
    clear hcell hx hb
    go_enter Tryz.func120, Tryz.ntmps120
    go_wp2
    go_quiet (fail)
    go_wp2
    go_quiet (fail)
    go_wp2
    have hle : a + 1 ≤ bs.length := by omega
    go_quiet (fail)
    go_wp2
    go_ret
    refine ⟨x, rfl, hx1, hx2, ?_, ?_⟩
    · first | exact ((hset _ _ _ (by repeat (first | exact Ext.refl _ | assumption | apply Ext.dn | apply Ext.drew | apply Ext.alloc)) (by omega)).1).dn _ | exact (hset _ _ _ (by repeat (first | exact Ext.refl _ | assumption | apply Ext.dn | apply Ext.drew | apply Ext.alloc)) (by omega)).1
    · first | exact ((hset _ _ _ (by repeat (first | exact Ext.refl _ | assumption | apply Ext.dn | apply Ext.drew | apply Ext.alloc)) (by omega)).2.mono (by omega)).ext (.drewN _ _) | exact (hset _ _ _ (by repeat (first | exact Ext.refl _ | assumption | apply Ext.dn | apply Ext.drew | apply Ext.alloc)) (by omega)).2.mono (by omega)
  · clear hcell hb
    go_enter Tryz.func120, Tryz.ntmps120
    go_wp2
    go_quiet (fail)
    go_wp2
    have hle : ¬ a + 1 ≤ bs.length := by omega
    go_quiet (fail)
    go_wp2
    go_ret
    refine ⟨_, rfl, ?_, ?_, ?_, ?_⟩
    rotate_left 2
    · first | exact ((hset _ _ _ (by repeat (first | exact Ext.refl _ | assumption | apply Ext.dn | apply Ext.drew | apply Ext.alloc)) (by omega)).1).dn _ | exact (hset _ _ _ (by repeat (first | exact Ext.refl _ | assumption | apply Ext.dn | apply Ext.drew | apply Ext.alloc)) (by omega)).1
    · first | exact ((hset _ _ _ (by repeat (first | exact Ext.refl _ | assumption | apply Ext.dn | apply Ext.drew | apply Ext.alloc)) (by omega)).2.mono (by omega)).ext (.drewN _ _) | exact (hset _ _ _ (by repeat (first | exact Ext.refl _ | assumption | apply Ext.dn | apply Ext.drew | apply Ext.alloc)) (by omega)).2.mono (by omega)
    · exact (seed_byte _).1
    · exact (seed_byte _).2
end Go.Proofs.YtfnjhodologfeaaGreat
/- pick, one, among -/
namespace Go.Proofs.YtfnjhodologfeaaGreat
open Go.RowKit

set_option maxRecDepth 100000 in
set_option maxHeartbeats 2000000 in
theorem pick_any (g m : Nat) (w : World) (n : Int) (hc : Cur w g m) (hm : m ≤ 1000000000) :
    Calls Tryz.prog 89 #[.pointer (some ⟨g, 0, none⟩), .int .i64 n] w fun e w' => ∃ r : Int, e = .returned (.int .i64 r) ∧ 0 ≤ r ∧ (r < n ∨ r = 0) ∧ Keep g w w' ∧ Cur w' g (m + 2) := by
  by_cases h1 : n ≤ 1
  · go_enter Tryz.func89, Tryz.ntmps89
    go_wp2
    go_ret
    exact ⟨0, rfl, by omega, by omega, Keep.of_ext (by repeat (first | exact Ext.refl _ | assumption | apply Ext.dn | apply Ext.drew | apply Ext.alloc)), (hc.mono (by omega)).ext (by repeat (first | exact Ext.refl _ | assumption | apply Ext.dn | apply Ext.drew | apply Ext.alloc))⟩
  · have h0 : ¬ n = 0 := by omega
    by_cases h2 : n > 200
    · go_enter Tryz.func89, Tryz.ntmps89
      go_wp2_with (first | (go_at_call 120; refine (next_any g (m + 1) _ (hc1.ext (by repeat (first | exact Ext.refl _ | assumption | apply Ext.dn | apply Ext.drew | apply Ext.alloc))) (by omega)).mono ?_; rintro e w2 ⟨y, rfl, hy0, hy1, hk2, hc2⟩) | (go_at_call 120; refine (next_any g m _ hc (by omega)).mono ?_; rintro e w1 ⟨x, rfl, hx0, hx1, hk1, hc1⟩))
      go_ret
      have e1 := Int.emod_nonneg (x * 256 + y) h0
      have e2 := Int.emod_lt_of_pos (x * 256 + y) (show 0 < n by omega)
      exact ⟨_, rfl, e1, .inl e2, hk1.trans hk2, hc2⟩
    · go_enter Tryz.func89, Tryz.ntmps89
      go_wp2_with (first | (go_at_call 120; refine (next_any g (m + 1) _ (hc1.ext (by repeat (first | exact Ext.refl _ | assumption | apply Ext.dn | apply Ext.drew | apply Ext.alloc))) (by omega)).mono ?_; rintro e w2 ⟨y, rfl, hy0, hy1, hk2, hc2⟩) | (go_at_call 120; refine (next_any g m _ hc (by omega)).mono ?_; rintro e w1 ⟨x, rfl, hx0, hx1, hk1, hc1⟩))
      go_ret
      have e1 := Int.emod_nonneg x h0
      have e2 := Int.emod_lt_of_pos x (show 0 < n by omega)
      exact ⟨_, rfl, e1, .inl e2, hk1, hc1.mono (by omega)⟩

set_option maxHeartbeats 1000000 in
theorem one_any (g m : Nat) (w : World) (n : Int) (hc : Cur w g m) (hm : m ≤ 1000000000) :
    Calls Tryz.prog 86 #[.pointer (some ⟨g, 0, none⟩), .int .i64 n] w fun e w' => ∃ b : Bool, e = .returned (.bool b) ∧ Keep g w w' ∧ Cur w' g (m + 2) := by
  go_enter Tryz.func86, Tryz.ntmps86
  go_wp2_with (go_at_call 89; refine (pick_any g m _ n hc (by omega)).mono ?_; rintro e w1 ⟨x, rfl, hx0, hx1, hk1, hc1⟩)
  go_ret
  exact ⟨_, rfl, hk1, hc1⟩

set_option maxHeartbeats 1000000 in
theorem among_any (g m : Nat) (w : World) (v : Value) (l : List Int) (hc : Cur w g m) (hm : m ≤ 1000000000) (hl : Ints w v l) (hpos : 0 < l.length) :
    Calls Tryz.prog 91 #[.pointer (some ⟨g, 0, none⟩), v] w fun e w' => ∃ r : Int, e = .returned (.int .i64 r) ∧ r ∈ l ∧ Keep g w w' ∧ Cur w' g (m + 2) := by
  obtain ⟨base, cap, rfl, h1, h2, hcell⟩ := hc.openI hl
  obtain ⟨b, off, rfl, hb, hne, hcs⟩ := hcell 0 hpos
  have HCS := Lib.hid hcs
  clear hcell hcs
  go_enter Tryz.func91, Tryz.ntmps91
  go_wp2_with (go_at_call 89; refine (pick_any g m _ _ hc (by omega)).mono ?_; rintro e w1 ⟨x, rfl, hx0, hx1, hk1, hc1⟩; have hxl : x < (l.length : Int) := (by omega); obtain ⟨k, rfl⟩ := Int.eq_ofNat_of_zero_le hx0; obtain ⟨y, hy, hyc⟩ := HCS.out k (by omega); have hyc1 := hyc w1 hk1)
  go_ret
  exact ⟨y, rfl, List.mem_of_getElem? hy, hk1, hc1⟩
end Go.Proofs.YtfnjhodologfeaaGreat
/- lit, clause, anyClause -/
namespace Go.Proofs.YtfnjhodologfeaaGreat
open Go.RowKit

theorem OwnI.keep {w w' : World} {B g : Nat} {v : Value} {xs : List Int} (h : OwnI w B v xs) (hk : Keep g w w') (hg : g < B) : OwnI w' B v xs := by
  refine hk.own h ?_
  rcases h.form with ⟨rfl, _⟩ | ⟨gb, cap, rfl, h1, h2, h3, h4⟩
  · simp [Value.ownBlock]
  · intro e
    simp [Value.ownBlock] at e
    omega

/-- a clause in order over some variables -/
def OkC (vars : Int) (c : List Int) : Prop := (∀ x ∈ c, x ≠ 0 ∧ -vars ≤ x ∧ x ≤ vars) ∧ c.Pairwise fun a b => absI a < absI b
theorem OkC.nil (vars : Int) : OkC vars [] := ⟨fun x h => by simp at h, List.Pairwise.nil⟩
theorem OkC.bd {vars : Int} {c : List Int} (h : OkC vars c) (hv : vars ≤ 1000) : BdI c := fun x hx => by have := h.1 x hx; omega
theorem OkC.without {vars : Int} {c : List Int} (h : OkC vars c) (v : Int) : OkC vars (withoutL c v) :=
  ⟨fun x hx => h.1 x (List.mem_filter.1 hx).1, h.2.filter _⟩
theorem without_none (c : List Int) (v : Int) : ∀ x ∈ withoutL c v, absI x ≠ v := fun x hx => by simpa using (List.mem_filter.1 hx).2
theorem putL_pw (l : Int) : ∀ c : List Int, (c.Pairwise fun a b => absI a < absI b) → (∀ x ∈ c, absI x ≠ absI l) → (putL c l).Pairwise fun a b => absI a < absI b
  | [], _, _ => by simp [putL]
  | a :: c, h2, hn => by
    have hna := hn a (by simp)
    have hpa := List.pairwise_cons.1 h2
    unfold putL
    by_cases hlt : absI a < absI l
    · rw [List.takeWhile_cons_of_pos (by simpa using hlt), List.dropWhile_cons_of_pos (by simpa using hlt), List.cons_append, List.pairwise_cons]
      refine ⟨?_, putL_pw l c hpa.2 (fun x hx => hn x (List.mem_cons_of_mem _ hx))⟩
      intro b hb
      rcases List.mem_append.1 hb with hb | hb
      · exact hpa.1 b ((List.takeWhile_sublist _).subset hb)
      · rcases List.mem_cons.1 hb with rfl | hb
        · exact hlt
        · exact hpa.1 b ((List.dropWhile_sublist _).subset hb)
    · rw [List.takeWhile_cons_of_neg (by simpa using hlt), List.dropWhile_cons_of_neg (by simpa using hlt), List.nil_append, List.pairwise_cons]
      refine ⟨?_, h2⟩
      intro b hb
      rcases List.mem_cons.1 hb with rfl | hb
      · omega
      · have := hpa.1 b hb
        omega
theorem putL_ok {vars : Int} {c : List Int} (h : OkC vars c) {l : Int} (hl : l ≠ 0 ∧ -vars ≤ l ∧ l ≤ vars) (hn : ∀ x ∈ c, absI x ≠ absI l) : OkC vars (putL c l) := by
  refine ⟨?_, putL_pw l c h.2 hn⟩
  have hsplit : c.takeWhile (fun x => decide (absI x < absI l)) ++ c.dropWhile (fun x => decide (absI x < absI l)) = c := List.takeWhile_append_dropWhile
  intro x hx
  rcases List.mem_append.1 hx with hx | hx
  · exact h.1 x (hsplit ▸ List.mem_append_left _ hx)
  · rcases List.mem_cons.1 hx with rfl | hx
    · exact hl
    · exact h.1 x (hsplit ▸ List.mem_append_right _ hx)

theorem ints_three (w : World) (x y z : Int) : Ints (w.alloc (.cells #[.int .i64 x, .int .i64 y, .int .i64 z] 3)) (.slice (some ⟨w.heap.size, 0, none⟩) 3 3) [x, y, z] :=
  ⟨rfl, _, _, rfl, Nat.le_refl _, by decide, .inr ⟨_, _, rfl, _, _, heap_alloc_new w _, fun j hj => by
    have : j < 3 := by simpa using hj
    match j, this with
    | 0, _ => rfl
    | 1, _ => rfl
    | 2, _ => rfl⟩⟩
set_option maxHeartbeats 1000000 in
theorem lit_any (g m : Nat) (w : World) (vars : Int) (hc : Cur w g m) (hm : m ≤ 100000000) (hv : vars ≤ 1000) (hv0 : -1000 ≤ vars) :
    Calls Tryz.prog 121 #[.pointer (some ⟨g, 0, none⟩), .int .i64 vars] w fun e w' => ∃ r : Int, e = .returned (.int .i64 r) ∧ Keep g w w' ∧ Cur w' g (m + 6) := by
  by_cases h1 : vars < 1
  · have hc1 : Cur w g (m + 2) := hc.mono (by omega)
    go_enter Tryz.func121, Tryz.ntmps121
    go_wp2_with (go_at_call 91; refine (among_any g (m + 2) _ _ [0, vars + 1, -vars - 1] (hc1.ext (by repeat (first | exact Ext.refl _ | assumption | apply Ext.dn | apply Ext.drew | apply Ext.alloc))) (by omega) (ints_three _ _ _ _) (by simp)).mono ?_; rintro e w2 ⟨x, rfl, hx, hk2, hc2⟩)
    go_ret
    exact ⟨_, rfl, (Keep.of_ext (by repeat (first | exact Ext.refl _ | assumption | apply Ext.dn | apply Ext.drew | apply Ext.alloc))).trans hk2, hc2.mono (by omega)⟩
  · go_enter Tryz.func121, Tryz.ntmps121
    go_wp2_with (first | (go_at_call 86; refine (one_any g (m + 2 + 2) _ _ hc2 (by omega)).mono ?_; rintro e w3 ⟨b3, rfl, hk3, hc3⟩) | (go_at_call 89; refine (pick_any g (m + 2) _ _ hc1 (by omega)).mono ?_; rintro e w2 ⟨x, rfl, hx0, hx1, hk2, hc2⟩) | (go_at_call 91; refine (among_any g (m + 2) _ _ [0, vars + 1, -vars - 1] (hc1.ext (by repeat (first | exact Ext.refl _ | assumption | apply Ext.dn | apply Ext.drew | apply Ext.alloc))) (by omega) (ints_three _ _ _ _) (by simp)).mono ?_; rintro e w2 ⟨x, rfl, hx, hk2, hc2⟩) | (go_at_call 86; refine (one_any g m _ _ (hc.ext (by repeat (first | exact Ext.refl _ | assumption | apply Ext.dn | apply Ext.drew | apply Ext.alloc))) (by omega)).mono ?_; rintro e w1 ⟨b1, rfl, hk1, hc1⟩))
    all_goals
      go_ret
      first
        | exact ⟨_, rfl, hk1.trans (hk2.trans hk3), hc3⟩
        | exact ⟨_, rfl, hk1.trans ((Keep.of_ext (by repeat (first | exact Ext.refl _ | assumption | apply Ext.dn | apply Ext.drew | apply Ext.alloc))).trans hk2), hc2.mono (by omega)⟩
end Go.Proofs.YtfnjhodologfeaaGreat
