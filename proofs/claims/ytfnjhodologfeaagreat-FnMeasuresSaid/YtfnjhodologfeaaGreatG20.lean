/- Parts of the proof: M7, M8, M9, M10, M11. -/
import Derived.Test.YtfnjhodologfeaaGreatG19
set_option linter.unusedSimpArgs false
set_option linter.unusedVariables false
/- an unfolding has the depth of the proof -/
namespace Go.Proofs.YtfnjhodologfeaaGreat
open Go.RowKit

theorem AllC.pre {f : CNF} {out : List RS} (h : AllC f out) : PreOk out := fun k s hs => correct_pre hs (h k (List.getElem?_eq_some_iff.1 hs).1)
theorem dpt_append {out T : List RS} (hp : PreOk out) : ∀ (n : Nat) (i : Int), 0 ≤ i → i < (out.length : Int) → dpt (out ++ T) n i = dpt out n i
  | 0, i, _, _ => by simp [dpt]
  | n + 1, i, h0, h1 => by
    have hk : i.toNat < out.length := by omega
    have hs : out[i.toNat]? = some (out[i.toNat]'hk) := List.getElem?_eq_getElem hk
    have hpp := hp _ _ hs
    rw [dpt, dpt, List.getElem?_append_left hk, hs]
    simp only []
    cases ha : axB (out[i.toNat]'hk)
    · obtain ⟨l0, l1⟩ := hpp _ (prem_left ha)
      rw [dpt_append hp n _ l0 (by omega)]
      cases hr : resB (out[i.toNat]'hk)
      · rfl
      · obtain ⟨r0, r1⟩ := hpp _ (prem_right ha hr)
        rw [dpt_append hp n _ r0 (by omega)]
    · rfl
theorem dpt_last (out : List RS) (s : RS) : dpt (out ++ [s]) (out ++ [s]).length (((out ++ [s]).length : Int) - 1) = if axB s = true then 0 else if resB s = true then 1 + max (dpt (out ++ [s]) out.length s.left) (dpt (out ++ [s]) out.length s.right) else dpt (out ++ [s]) out.length s.left := by
  have e1 : (out ++ [s]).length = out.length + 1 := by simp
  have e2 : (((out.length + 1 : Nat) : Int) - 1).toNat = out.length := by omega
  rw [e1, dpt, e2, List.getElem?_append_right (Nat.le_refl _), Nat.sub_self]
  rfl
theorem dpt_unf {f : CNF} {ss : List RS} (ht : takesB f ss = true) : ∀ (n : Nat) (i : Int) (out : List RS), 0 ≤ i → i < n → i < ss.length → AllC f out →
    dpt (unfL ss n out i) (unfL ss n out i).length (((unfL ss n out i).length : Int) - 1) = dpt ss n i
  | 0, i, out, h0, h1, _, _ => by omega
  | n + 1, i, out, h0, h1, h2, hA => by
    obtain ⟨k, rfl⟩ := Int.eq_ofNat_of_zero_le h0
    have hk : k < ss.length := by omega
    have hs : ss[k]? = some ss[k] := List.getElem?_eq_getElem hk
    have hp := takes_pre ht k _ hs
    have e : unfL ss (n + 1) out (k : Int) = if axB ss[k] = true then out ++ [ss[k]]
      else if resB ss[k] = true then unfL ss n (unfL ss n out ss[k].left) ss[k].right ++ [{ ss[k] with left := ((unfL ss n out ss[k].left).length : Int) - 1, right := ((unfL ss n (unfL ss n out ss[k].left) ss[k].right).length : Int) - 1 }]
      else unfL ss n out ss[k].left ++ [{ ss[k] with left := ((unfL ss n out ss[k].left).length : Int) - 1 }] := by rw [unfL, Int.toNat_natCast, hs]
    have e' : dpt ss (n + 1) (k : Int) = if axB ss[k] = true then 0 else if resB ss[k] = true then 1 + max (dpt ss n ss[k].left) (dpt ss n ss[k].right) else dpt ss n ss[k].left := by rw [dpt, Int.toNat_natCast, hs]
    rw [e, e']
    cases ha : axB ss[k]
    · obtain ⟨l0, l1⟩ := hp _ (prem_left ha)
      obtain ⟨T, h3, h4, h5, _, _⟩ := unf_corr ht n ss[k].left out l0 (by omega) (by omega) hA
      have ih := dpt_unf ht n ss[k].left out l0 (by omega) (by omega) hA
      have hO : 0 < (unfL ss n out ss[k].left).length := by have := List.length_pos_iff.2 h4; rw [h3, List.length_append]; omega
      cases hr : resB ss[k]
      · simp only [Bool.false_eq_true, if_false]
        generalize unfL ss n out ss[k].left = O1 at h5 ih hO ⊢
        have hr' : resB { ss[k] with left := (O1.length : Int) - 1 } = false := by
          have hrl : ss[k].right < 0 := by simp [resB] at hr; omega
          simp [resB]; omega
        rw [dpt_last, if_neg (by simp [axB]; omega), if_neg (by simp [hr'])]
        show dpt (O1 ++ [_]) O1.length ((O1.length : Int) - 1) = _
        rw [dpt_append h5.pre _ _ (by omega) (by omega), ih]
      · obtain ⟨r0, r1⟩ := hp _ (prem_right ha hr)
        obtain ⟨T2, k3, k4, k5, _, _⟩ := unf_corr ht n ss[k].right (unfL ss n out ss[k].left) r0 (by omega) (by omega) h5
        have ih2 := dpt_unf ht n ss[k].right (unfL ss n out ss[k].left) r0 (by omega) (by omega) h5
        simp only [Bool.false_eq_true, if_false, if_true]
        generalize unfL ss n out ss[k].left = O1 at h3 h5 ih hO k3 k5 ih2 ⊢
        generalize unfL ss n O1 ss[k].right = O2 at k3 k5 ih2 ⊢
        have hO2 : O1.length < O2.length := by have := List.length_pos_iff.2 k4; rw [k3, List.length_append]; omega
        rw [dpt_last, if_neg (by simp [axB]; omega), if_pos (by simp [resB]; omega)]
        show 1 + max (dpt (O2 ++ [_]) O2.length ((O1.length : Int) - 1)) (dpt (O2 ++ [_]) O2.length ((O2.length : Int) - 1)) = _
        rw [dpt_append k5.pre _ _ (by omega) (by omega), dpt_append k5.pre _ _ (by omega) (by omega), ih2]
        have e3 : dpt O2 O2.length ((O1.length : Int) - 1) = dpt O1 O1.length ((O1.length : Int) - 1) := by
          have : dpt O2 O2.length ((O1.length : Int) - 1) = dpt O2 O1.length ((O1.length : Int) - 1) := dpt_fuel k5.pre _ _ _ (by omega) (by omega) (by omega)
          rw [this, k3, dpt_append h5.pre _ _ (by omega) (by omega)]
        rw [e3, ih]
    · simp only [if_true]
      rw [dpt_last, if_pos ha]
end Go.Proofs.YtfnjhodologfeaaGreat
/- an unfolding is tree-like -/
namespace Go.Proofs.YtfnjhodologfeaaGreat
open Go.RowKit

theorem premL_ax {s : RS} (h : axB s = true) : premL s = [] := by
  have h' : s.left < 0 := by simpa [axB] using h
  simp [premL, h']
theorem premL_wk {s : RS} (h : axB s = false) (h2 : resB s = false) : premL s = [s.left] := by
  have h' : ¬ s.left < 0 := by simpa [axB] using h
  have h3 : s.right < 0 := by simp [resB] at h2; omega
  simp [premL, h', h3]
theorem premL_res {s : RS} (h : axB s = false) (h2 : resB s = true) : premL s = [s.left, s.right] := by
  have h' : ¬ s.left < 0 := by simpa [axB] using h
  have h3 : 0 ≤ s.right := by simp [resB] at h2; exact h2.2
  have h4 : ¬ s.right < 0 := by omega
  simp [premL, h', h4]
theorem prem_unf {f : CNF} {ss : List RS} (ht : takesB f ss = true) : ∀ (n : Nat) (i : Int) (out : List RS), 0 ≤ i → i < n → i < ss.length → AllC f out →
    ∃ T, unfL ss n out i = out ++ T ∧ T ≠ [] ∧ (T.flatMap premL).Nodup ∧ ∀ x ∈ T.flatMap premL, (out.length : Int) ≤ x ∧ x < ((unfL ss n out i).length : Int) - 1
  | 0, i, out, h0, h1, _, _ => by omega
  | n + 1, i, out, h0, h1, h2, hA => by
    obtain ⟨k, rfl⟩ := Int.eq_ofNat_of_zero_le h0
    have hk : k < ss.length := by omega
    have hs : ss[k]? = some ss[k] := List.getElem?_eq_getElem hk
    have hp := takes_pre ht k _ hs
    have e : unfL ss (n + 1) out (k : Int) = if axB ss[k] = true then out ++ [ss[k]]
      else if resB ss[k] = true then unfL ss n (unfL ss n out ss[k].left) ss[k].right ++ [{ ss[k] with left := ((unfL ss n out ss[k].left).length : Int) - 1, right := ((unfL ss n (unfL ss n out ss[k].left) ss[k].right).length : Int) - 1 }]
      else unfL ss n out ss[k].left ++ [{ ss[k] with left := ((unfL ss n out ss[k].left).length : Int) - 1 }] := by rw [unfL, Int.toNat_natCast, hs]
    rw [e]
    cases ha : axB ss[k]
    · obtain ⟨l0, l1⟩ := hp _ (prem_left ha)
      obtain ⟨_, _, _, h5, _, _⟩ := unf_corr ht n ss[k].left out l0 (by omega) (by omega) hA
      obtain ⟨T, h3, h4, h6, h7⟩ := prem_unf ht n ss[k].left out l0 (by omega) (by omega) hA
      cases hr : resB ss[k]
      · simp only [Bool.false_eq_true, if_false]
        generalize unfL ss n out ss[k].left = O1 at h3 h5 h7 ⊢
        have hO : out.length < O1.length := by have := List.length_pos_iff.2 h4; rw [h3, List.length_append]; omega
        have hr' : resB { ss[k] with left := (O1.length : Int) - 1 } = false := by
          have hrl : ss[k].right < 0 := by simp [resB] at hr; omega
          simp [resB]; omega
        have hpl : premL { ss[k] with left := (O1.length : Int) - 1 } = [(O1.length : Int) - 1] := premL_wk (by simp [axB]; omega) hr'
        refine ⟨T ++ [{ ss[k] with left := (O1.length : Int) - 1 }], by rw [h3, List.append_assoc], by simp, ?_, ?_⟩
        · rw [List.flatMap_append, List.flatMap_cons, List.flatMap_nil, List.append_nil, hpl, List.nodup_append]
          refine ⟨h6, by simp, fun x hx y hy => ?_⟩
          have := h7 x hx
          simp at hy
          omega
        · intro x hx
          rw [List.flatMap_append, List.flatMap_cons, List.flatMap_nil, List.append_nil, hpl] at hx
          simp only [List.length_append, List.length_cons, List.length_nil]
          rcases List.mem_append.1 hx with hx | hx
          · have := h7 x hx; omega
          · simp at hx; omega
      · obtain ⟨r0, r1⟩ := hp _ (prem_right ha hr)
        obtain ⟨T2, k3, k4, k6, k7⟩ := prem_unf ht n ss[k].right (unfL ss n out ss[k].left) r0 (by omega) (by omega) h5
        simp only [Bool.false_eq_true, if_false, if_true]
        generalize unfL ss n out ss[k].left = O1 at h3 h5 h7 k3 k7 ⊢
        generalize unfL ss n O1 ss[k].right = O2 at k3 k7 ⊢
        have hO : out.length < O1.length := by have := List.length_pos_iff.2 h4; rw [h3, List.length_append]; omega
        have hO2 : O1.length < O2.length := by have := List.length_pos_iff.2 k4; rw [k3, List.length_append]; omega
        have hpl : premL { ss[k] with left := (O1.length : Int) - 1, right := (O2.length : Int) - 1 } = [(O1.length : Int) - 1, (O2.length : Int) - 1] := premL_res (by simp [axB]; omega) (by simp [resB]; omega)
        refine ⟨T ++ (T2 ++ [{ ss[k] with left := (O1.length : Int) - 1, right := (O2.length : Int) - 1 }]), by rw [k3, h3]; simp, by simp, ?_, ?_⟩
        · rw [List.flatMap_append, List.flatMap_append, List.flatMap_cons, List.flatMap_nil, List.append_nil, hpl, List.nodup_append, List.nodup_append]
          refine ⟨h6, ⟨k6, by simp; omega, fun x hx y hy => ?_⟩, fun x hx y hy => ?_⟩
          · have := k7 x hx
            simp at hy
            omega
          · have := h7 x hx
            rcases List.mem_append.1 hy with hy | hy
            · have := k7 y hy; omega
            · simp at hy; omega
        · intro x hx
          rw [List.flatMap_append, List.flatMap_append, List.flatMap_cons, List.flatMap_nil, List.append_nil, hpl] at hx
          simp only [List.length_append, List.length_cons, List.length_nil]
          rcases List.mem_append.1 hx with hx | hx
          · have := h7 x hx; omega
          · rcases List.mem_append.1 hx with hx | hx
            · have := k7 x hx; omega
            · simp at hx; omega
    · simp only [if_true]
      refine ⟨[ss[k]], rfl, by simp, ?_, ?_⟩
      · simp [premL_ax ha]
      · intro x hx
        simp [premL_ax ha] at hx
theorem tree_unf {f : CNF} {ss : List RS} (ht : takesB f ss = true) (hl : (unfOf ss).length ≤ 200) : treeB (unfOf ss) = true := by
  obtain ⟨⟨hp, _, _⟩, _⟩ := takes_corr ht
  obtain ⟨T, h1, h2, h3, h4⟩ := prem_unf ht ss.length ((ss.length : Int) - 1) [] (by omega) (by omega) (by omega) (fun k hk => by simp at hk)
  have h1' : unfOf ss = T := by unfold unfOf; rw [h1]; rfl
  have hU : usesL (unfOf ss) ≠ [] := by
    intro e
    have e2 := congrArg List.length e
    rw [usesL, cnts_length, h1'] at e2
    have e3 := List.length_pos_iff.2 h2
    rw [List.length_nil] at e2
    omega
  unfold treeB
  rw [maxL_all 1 _ hU, List.all_eq_true]
  intro x hx
  unfold usesL cnts at hx
  obtain ⟨j, hj, rfl⟩ := List.mem_map.1 hx
  have hpt : premTo (unfOf ss) (unfOf ss).length = T.flatMap premL := by unfold premTo; rw [List.take_length, h1']
  rw [hpt]
  have := List.nodup_iff_count.1 h3 (j : Int)
  simp only [decide_eq_true_eq]
  omega
end Go.Proofs.YtfnjhodologfeaaGreat
/- the pivots of an unfolding -/
namespace Go.Proofs.YtfnjhodologfeaaGreat
open Go.RowKit

/-- the pivots at and below a step -/
def pv (ss : List RS) : Nat → Int → List Int
  | 0, _ => []
  | n + 1, i => match ss[i.toNat]? with
    | none => []
    | some s => if axB s = true then varsL [] else if resB s = true then varsL (pv ss n s.left ++ pv ss n s.right ++ [s.pivot]) else varsL (pv ss n s.left)
theorem pv_fuel {ss : List RS} (hpre : PreOk ss) : ∀ (n m : Nat) (i : Int), 0 ≤ i → i < (n : Int) → i < (m : Int) → pv ss n i = pv ss m i
  | 0, m, i, h0, h1, h2 => by omega
  | n + 1, 0, i, h0, h1, h2 => by omega
  | n + 1, m + 1, i, h0, h1, h2 => by
    rw [pv, pv]
    cases h : ss[i.toNat]? with
    | none => rfl
    | some s =>
      have hp := hpre _ s h
      simp only []
      cases ha : axB s
      · obtain ⟨l0, l1⟩ := hp _ (prem_left ha)
        rw [pv_fuel hpre n m s.left l0 (by omega) (by omega)]
        cases hr : resB s
        · rfl
        · obtain ⟨r0, r1⟩ := hp _ (prem_right ha hr)
          rw [pv_fuel hpre n m s.right r0 (by omega) (by omega)]
      · rfl
theorem pivTo_take (ss : List RS) {j k : Nat} (h : j ≤ k) : (pivTo ss k).take j = pivTo ss j := by
  induction k with
  | zero => obtain rfl : j = 0 := by omega
            rfl
  | succ k ih =>
    by_cases hjk : j = k + 1
    · subst hjk
      rw [List.take_of_length_le (by simp [pivTo_length])]
    · have hl := pivTo_length ss k
      rw [pivTo, List.take_append_of_le_length (by omega)]
      exact ih (by omega)
theorem getL_lt (ss : List RS) {k K : Nat} (hk : k ≤ K) {p : Int} (h0 : 0 ≤ p) (hp : p < (k : Int)) : getL (pivTo ss k) p = getL (pivTo ss K) p := by
  unfold getL List.getD
  congr 1
  rw [← pivTo_take ss hk, List.getElem?_take, if_pos (by omega)]
theorem getL_at (ss : List RS) {k K : Nat} (hk : k < K) {s : RS} (hs : ss[k]? = some s) : getL (pivTo ss K) (k : Int) = varsL (pivAll (pivTo ss k) s) := by
  have h2 : (pivTo ss (k + 1))[k]? = some (varsL (pivAll (pivTo ss k) s)) := by
    rw [pivTo_succ hs]
    have := pivTo_length ss k
    rw [List.getElem?_append_right (by omega), this]; simp
  rw [← getL_lt ss (show k + 1 ≤ K by omega) (by omega) (by omega)]
  unfold getL List.getD
  rw [Int.toNat_natCast, h2]
  rfl
theorem piv_pv {ss : List RS} (hpre : PreOk ss) : ∀ (k : Nat), k < ss.length → getL (pivTo ss ss.length) (k : Int) = pv ss (k + 1) (k : Int) := by
  intro k
  induction k using Nat.strongRecOn with
  | ind k ih =>
    intro hk
    have hs : ss[k]? = some ss[k] := List.getElem?_eq_getElem hk
    have hp := hpre k _ hs
    rw [getL_at ss hk hs, pv, Int.toNat_natCast, hs]
    simp only []
    have key : ∀ x : Int, 0 ≤ x → x < (k : Int) → getL (pivTo ss k) x = pv ss k x := by
      intro x x0 x1
      have h1 := ih x.toNat (by omega) (by omega)
      rw [Int.toNat_of_nonneg x0] at h1
      rw [getL_lt ss (Nat.le_of_lt hk) x0 x1, h1]
      exact pv_fuel hpre _ _ _ x0 (by omega) (by omega)
    cases ha : axB ss[k]
    · obtain ⟨l0, l1⟩ := hp _ (prem_left ha)
      cases hr : resB ss[k]
      · simp only [Bool.false_eq_true, if_false]
        unfold pivAll
        rw [premL_wk ha hr, hr]
        simp [key _ l0 l1]
      · obtain ⟨r0, r1⟩ := hp _ (prem_right ha hr)
        simp only [Bool.false_eq_true, if_false, if_true]
        unfold pivAll
        rw [premL_res ha hr, hr]
        simp [key _ l0 l1, key _ r0 r1]
    · have hr := res_ax ha
      simp only [if_true]
      unfold pivAll
      rw [premL_ax ha, hr]
      simp
theorem pv_append {out T : List RS} (hp : PreOk out) : ∀ (n : Nat) (i : Int), 0 ≤ i → i < (out.length : Int) → pv (out ++ T) n i = pv out n i
  | 0, i, _, _ => by simp [pv]
  | n + 1, i, h0, h1 => by
    have hk : i.toNat < out.length := by omega
    have hs : out[i.toNat]? = some (out[i.toNat]'hk) := List.getElem?_eq_getElem hk
    have hpp := hp _ _ hs
    rw [pv, pv, List.getElem?_append_left hk, hs]
    simp only []
    cases ha : axB (out[i.toNat]'hk)
    · obtain ⟨l0, l1⟩ := hpp _ (prem_left ha)
      rw [pv_append hp n _ l0 (by omega)]
      cases hr : resB (out[i.toNat]'hk)
      · rfl
      · obtain ⟨r0, r1⟩ := hpp _ (prem_right ha hr)
        rw [pv_append hp n _ r0 (by omega)]
    · rfl
end Go.Proofs.YtfnjhodologfeaaGreat
/- regularity of an unfolding -/
namespace Go.Proofs.YtfnjhodologfeaaGreat
open Go.RowKit

/-- no resolvent below a step repeats a pivot -/
def regR (ss : List RS) : Nat → Int → Bool
  | 0, _ => true
  | n + 1, i => match ss[i.toNat]? with
    | none => true
    | some s => if axB s = true then true else if resB s = true then !(hasB (pv ss n s.left) s.pivot || hasB (pv ss n s.right) s.pivot) && regR ss n s.left && regR ss n s.right else regR ss n s.left
theorem regR_fuel {ss : List RS} (hpre : PreOk ss) : ∀ (n m : Nat) (i : Int), 0 ≤ i → i < (n : Int) → i < (m : Int) → regR ss n i = regR ss m i
  | 0, m, i, h0, h1, h2 => by omega
  | n + 1, 0, i, h0, h1, h2 => by omega
  | n + 1, m + 1, i, h0, h1, h2 => by
    rw [regR, regR]
    cases h : ss[i.toNat]? with
    | none => rfl
    | some s =>
      have hp := hpre _ s h
      simp only []
      cases ha : axB s
      · obtain ⟨l0, l1⟩ := hp _ (prem_left ha)
        rw [regR_fuel hpre n m s.left l0 (by omega) (by omega), pv_fuel hpre n m s.left l0 (by omega) (by omega)]
        cases hr : resB s
        · rfl
        · obtain ⟨r0, r1⟩ := hp _ (prem_right ha hr)
          rw [regR_fuel hpre n m s.right r0 (by omega) (by omega), pv_fuel hpre n m s.right r0 (by omega) (by omega)]
      · rfl
theorem regR_append {out T : List RS} (hp : PreOk out) : ∀ (n : Nat) (i : Int), 0 ≤ i → i < (out.length : Int) → regR (out ++ T) n i = regR out n i
  | 0, i, _, _ => by simp [regR]
  | n + 1, i, h0, h1 => by
    have hk : i.toNat < out.length := by omega
    have hs : out[i.toNat]? = some (out[i.toNat]'hk) := List.getElem?_eq_getElem hk
    have hpp := hp _ _ hs
    rw [regR, regR, List.getElem?_append_left hk, hs]
    simp only []
    cases ha : axB (out[i.toNat]'hk)
    · obtain ⟨l0, l1⟩ := hpp _ (prem_left ha)
      rw [regR_append hp n _ l0 (by omega), pv_append hp n _ l0 (by omega)]
      cases hr : resB (out[i.toNat]'hk)
      · rfl
      · obtain ⟨r0, r1⟩ := hpp _ (prem_right ha hr)
        rw [regR_append hp n _ r0 (by omega), pv_append hp n _ r0 (by omega)]
    · rfl
theorem pv_last (out : List RS) (s : RS) : pv (out ++ [s]) (out ++ [s]).length (((out ++ [s]).length : Int) - 1) = if axB s = true then varsL [] else if resB s = true then varsL (pv (out ++ [s]) out.length s.left ++ pv (out ++ [s]) out.length s.right ++ [s.pivot]) else varsL (pv (out ++ [s]) out.length s.left) := by
  have e1 : (out ++ [s]).length = out.length + 1 := by simp
  have e2 : (((out.length + 1 : Nat) : Int) - 1).toNat = out.length := by omega
  rw [e1, pv, e2, List.getElem?_append_right (Nat.le_refl _), Nat.sub_self]
  rfl
theorem regR_last (out : List RS) (s : RS) : regR (out ++ [s]) (out ++ [s]).length (((out ++ [s]).length : Int) - 1) = if axB s = true then true else if resB s = true then !(hasB (pv (out ++ [s]) out.length s.left) s.pivot || hasB (pv (out ++ [s]) out.length s.right) s.pivot) && regR (out ++ [s]) out.length s.left && regR (out ++ [s]) out.length s.right else regR (out ++ [s]) out.length s.left := by
  have e1 : (out ++ [s]).length = out.length + 1 := by simp
  have e2 : (((out.length + 1 : Nat) : Int) - 1).toNat = out.length := by omega
  rw [e1, regR, e2, List.getElem?_append_right (Nat.le_refl _), Nat.sub_self]
  rfl
theorem reg_unf {f : CNF} {ss : List RS} (ht : takesB f ss = true) : ∀ (n : Nat) (i : Int) (out : List RS), 0 ≤ i → i < n → i < ss.length → AllC f out →
    pv (unfL ss n out i) (unfL ss n out i).length (((unfL ss n out i).length : Int) - 1) = pv ss n i ∧ regR (unfL ss n out i) (unfL ss n out i).length (((unfL ss n out i).length : Int) - 1) = regR ss n i
  | 0, i, out, h0, h1, _, _ => by omega
  | n + 1, i, out, h0, h1, h2, hA => by
    obtain ⟨k, rfl⟩ := Int.eq_ofNat_of_zero_le h0
    have hk : k < ss.length := by omega
    have hs : ss[k]? = some ss[k] := List.getElem?_eq_getElem hk
    have hp := takes_pre ht k _ hs
    have e : unfL ss (n + 1) out (k : Int) = if axB ss[k] = true then out ++ [ss[k]]
      else if resB ss[k] = true then unfL ss n (unfL ss n out ss[k].left) ss[k].right ++ [{ ss[k] with left := ((unfL ss n out ss[k].left).length : Int) - 1, right := ((unfL ss n (unfL ss n out ss[k].left) ss[k].right).length : Int) - 1 }]
      else unfL ss n out ss[k].left ++ [{ ss[k] with left := ((unfL ss n out ss[k].left).length : Int) - 1 }] := by rw [unfL, Int.toNat_natCast, hs]
    have e' : pv ss (n + 1) (k : Int) = if axB ss[k] = true then varsL [] else if resB ss[k] = true then varsL (pv ss n ss[k].left ++ pv ss n ss[k].right ++ [ss[k].pivot]) else varsL (pv ss n ss[k].left) := by rw [pv, Int.toNat_natCast, hs]
    have e'' : regR ss (n + 1) (k : Int) = if axB ss[k] = true then true else if resB ss[k] = true then !(hasB (pv ss n ss[k].left) ss[k].pivot || hasB (pv ss n ss[k].right) ss[k].pivot) && regR ss n ss[k].left && regR ss n ss[k].right else regR ss n ss[k].left := by rw [regR, Int.toNat_natCast, hs]
    rw [e, e', e'']
    cases ha : axB ss[k]
    · obtain ⟨l0, l1⟩ := hp _ (prem_left ha)
      obtain ⟨T, h3, h4, h5, _, _⟩ := unf_corr ht n ss[k].left out l0 (by omega) (by omega) hA
      obtain ⟨ih, ihr⟩ := reg_unf ht n ss[k].left out l0 (by omega) (by omega) hA
      have hO : 0 < (unfL ss n out ss[k].left).length := by have := List.length_pos_iff.2 h4; rw [h3, List.length_append]; omega
      cases hr : resB ss[k]
      · simp only [Bool.false_eq_true, if_false]
        generalize unfL ss n out ss[k].left = O1 at h5 ih ihr hO ⊢
        have hr' : resB { ss[k] with left := (O1.length : Int) - 1 } = false := by
          have hrl : ss[k].right < 0 := by simp [resB] at hr; omega
          simp [resB]; omega
        rw [pv_last, if_neg (by simp [axB]; omega), if_neg (by simp [hr']), regR_last, if_neg (by simp [axB]; omega), if_neg (by simp [hr'])]
        show varsL (pv (O1 ++ [_]) O1.length ((O1.length : Int) - 1)) = _ ∧ regR (O1 ++ [_]) O1.length ((O1.length : Int) - 1) = _
        rw [pv_append h5.pre _ _ (by omega) (by omega), ih, regR_append h5.pre _ _ (by omega) (by omega), ihr]
        exact ⟨rfl, rfl⟩
      · obtain ⟨r0, r1⟩ := hp _ (prem_right ha hr)
        obtain ⟨T2, k3, k4, k5, _, _⟩ := unf_corr ht n ss[k].right (unfL ss n out ss[k].left) r0 (by omega) (by omega) h5
        obtain ⟨ih2, ihr2⟩ := reg_unf ht n ss[k].right (unfL ss n out ss[k].left) r0 (by omega) (by omega) h5
        simp only [Bool.false_eq_true, if_false, if_true]
        generalize unfL ss n out ss[k].left = O1 at h3 h5 ih ihr hO k3 k5 ih2 ihr2 ⊢
        generalize unfL ss n O1 ss[k].right = O2 at k3 k5 ih2 ihr2 ⊢
        have hO2 : O1.length < O2.length := by have := List.length_pos_iff.2 k4; rw [k3, List.length_append]; omega
        have e3 : pv O2 O2.length ((O1.length : Int) - 1) = pv O1 O1.length ((O1.length : Int) - 1) := by
          have : pv O2 O2.length ((O1.length : Int) - 1) = pv O2 O1.length ((O1.length : Int) - 1) := pv_fuel k5.pre _ _ _ (by omega) (by omega) (by omega)
          rw [this, k3, pv_append h5.pre _ _ (by omega) (by omega)]
        have e4 : regR O2 O2.length ((O1.length : Int) - 1) = regR O1 O1.length ((O1.length : Int) - 1) := by
          have : regR O2 O2.length ((O1.length : Int) - 1) = regR O2 O1.length ((O1.length : Int) - 1) := regR_fuel k5.pre _ _ _ (by omega) (by omega) (by omega)
          rw [this, k3, regR_append h5.pre _ _ (by omega) (by omega)]
        rw [pv_last, if_neg (by simp [axB]; omega), if_pos (by simp [resB]; omega), regR_last, if_neg (by simp [axB]; omega), if_pos (by simp [resB]; omega)]
        show varsL (pv (O2 ++ [_]) O2.length ((O1.length : Int) - 1) ++ pv (O2 ++ [_]) O2.length ((O2.length : Int) - 1) ++ [ss[k].pivot]) = _ ∧ (!(hasB (pv (O2 ++ [_]) O2.length ((O1.length : Int) - 1)) ss[k].pivot || hasB (pv (O2 ++ [_]) O2.length ((O2.length : Int) - 1)) ss[k].pivot) && regR (O2 ++ [_]) O2.length ((O1.length : Int) - 1) && regR (O2 ++ [_]) O2.length ((O2.length : Int) - 1)) = _
        rw [pv_append k5.pre _ _ (by omega) (by omega), pv_append k5.pre _ _ (by omega) (by omega), regR_append k5.pre _ _ (by omega) (by omega), regR_append k5.pre _ _ (by omega) (by omega), e3, ih, ih2, e4, ihr, ihr2]
        exact ⟨rfl, rfl⟩
    · simp only [if_true]
      rw [pv_last, if_pos ha, regR_last, if_pos ha]
      exact ⟨rfl, rfl⟩
end Go.Proofs.YtfnjhodologfeaaGreat
/- needed steps, by recursion -/
namespace Go.Proofs.YtfnjhodologfeaaGreat
open Go.RowKit

theorem needAcc_step {ss : List RS} {m : Nat} (hm : m < ss.length) : ∃ s, ss[ss.length - 1 - m]? = some s ∧ needAcc ss (m + 1) = if m = 0 ∨ ((ss.length - 1 - m : Nat) : Int) ∈ (needAcc ss m).2 then ((needAcc ss m).1 ++ [((ss.length - 1 - m : Nat) : Int)], (needAcc ss m).2 ++ premL s) else needAcc ss m := by
  have h : ss[ss.length - 1 - m]? = some (ss[ss.length - 1 - m]'(by omega)) := List.getElem?_eq_getElem (by omega)
  exact ⟨_, h, by rw [needAcc, h]⟩
theorem needAcc_mono {ss : List RS} {a b : Nat} (hab : a ≤ b) (hb : b ≤ ss.length) : (∀ x ∈ (needAcc ss a).1, x ∈ (needAcc ss b).1) ∧ ∀ x ∈ (needAcc ss a).2, x ∈ (needAcc ss b).2 := by
  induction b with
  | zero => obtain rfl : a = 0 := by omega
            exact ⟨fun _ h => h, fun _ h => h⟩
  | succ b ih =>
    by_cases h : a = b + 1
    · subst h; exact ⟨fun _ h => h, fun _ h => h⟩
    · obtain ⟨h1, h2⟩ := ih (by omega) (by omega)
      obtain ⟨s, _, e⟩ := needAcc_step (show b < ss.length by omega)
      rw [e]
      split
      · exact ⟨fun x hx => List.mem_append_left _ (h1 x hx), fun x hx => List.mem_append_left _ (h2 x hx)⟩
      · exact ⟨h1, h2⟩
/-- whatever is in the list, and why -/
theorem needAcc_why {ss : List RS} : ∀ m, m ≤ ss.length → (∀ x ∈ (needAcc ss m).1, ∃ q, q < m ∧ x = ((ss.length - 1 - q : Nat) : Int) ∧ (q = 0 ∨ x ∈ (needAcc ss q).2)) ∧
    (∀ x ∈ (needAcc ss m).2, ∃ y ∈ (needAcc ss m).1, ∃ s, ss[y.toNat]? = some s ∧ x ∈ premL s)
  | 0, _ => by simp [needAcc]
  | m + 1, hm => by
    obtain ⟨h1, h2⟩ := needAcc_why (ss := ss) m (by omega)
    obtain ⟨s, hs, e⟩ := needAcc_step (show m < ss.length by omega)
    rw [e]
    split
    · rename_i hc
      refine ⟨fun x hx => ?_, fun x hx => ?_⟩
      · rcases List.mem_append.1 hx with hx | hx
        · obtain ⟨q, a, b, c⟩ := h1 x hx
          exact ⟨q, by omega, b, c⟩
        · simp only [List.mem_singleton] at hx
          exact ⟨m, by omega, hx, by rw [hx]; exact hc⟩
      · rcases List.mem_append.1 hx with hx | hx
        · obtain ⟨y, a, b⟩ := h2 x hx
          exact ⟨y, List.mem_append_left _ a, b⟩
        · exact ⟨_, List.mem_append_right _ (List.mem_singleton.2 rfl), s, by rw [Int.toNat_natCast]; exact hs, hx⟩
    · refine ⟨fun x hx => ?_, h2⟩
      obtain ⟨q, a, b, c⟩ := h1 x hx
      exact ⟨q, by omega, b, c⟩
theorem need_in {ss : List RS} {q : Nat} (hq : q < ss.length) (h : q = 0 ∨ ((ss.length - 1 - q : Nat) : Int) ∈ (needAcc ss q).2) : ((ss.length - 1 - q : Nat) : Int) ∈ (needAcc ss ss.length).1 := by
  obtain ⟨s, hs, e⟩ := needAcc_step hq
  refine (needAcc_mono (show q + 1 ≤ ss.length by omega) (Nat.le_refl _)).1 _ ?_
  rw [e, if_pos h]
  exact List.mem_append_right _ (List.mem_singleton.2 rfl)
theorem mem_need {ss : List RS} {x : Int} : x ∈ needL ss ↔ x ∈ (needAcc ss ss.length).1 := by unfold needL; rw [List.mem_reverse]
theorem need_last {ss : List RS} (h : 0 < ss.length) : (ss.length : Int) - 1 ∈ needL ss := by
  rw [mem_need]
  have := need_in (ss := ss) (q := 0) h (.inl rfl)
  rw [show ((ss.length - 1 - 0 : Nat) : Int) = (ss.length : Int) - 1 by omega] at this
  exact this
theorem need_prem {ss : List RS} (hpre : PreOk ss) {y x : Int} {s : RS} (hy : y ∈ needL ss) (hs : ss[y.toNat]? = some s) (hx : x ∈ premL s) : x ∈ needL ss := by
  rw [mem_need] at hy ⊢
  obtain ⟨q, hq, e, hc⟩ := (needAcc_why ss.length (Nat.le_refl _)).1 y hy
  subst e
  rw [Int.toNat_natCast] at hs
  obtain ⟨x0, x1⟩ := hpre _ s hs x hx
  obtain ⟨s', hs', e2⟩ := needAcc_step hq
  have hss : s' = s := by rw [hs'] at hs; injection hs
  subst hss
  have h3 : x ∈ (needAcc ss (q + 1)).2 := by rw [e2, if_pos hc]; exact List.mem_append_right _ hx
  obtain ⟨k, rfl⟩ := Int.eq_ofNat_of_zero_le x0
  have hk : k < ss.length - 1 - q := by omega
  have ek : ss.length - 1 - (ss.length - 1 - k) = k := by omega
  have := need_in (ss := ss) (q := ss.length - 1 - k) (by omega) (.inr (by rw [ek]; exact (needAcc_mono (show q + 1 ≤ ss.length - 1 - k by omega) (by omega)).2 _ h3))
  rw [ek] at this
  exact this
theorem need_why {ss : List RS} {x : Int} (hx : x ∈ needL ss) : x = (ss.length : Int) - 1 ∨ ∃ y ∈ needL ss, ∃ s, ss[y.toNat]? = some s ∧ x ∈ premL s := by
  rw [mem_need] at hx
  obtain ⟨q, hq, e, hc⟩ := (needAcc_why ss.length (Nat.le_refl _)).1 x hx
  rcases hc with rfl | hc
  · left; omega
  · right
    obtain ⟨y, hy, h⟩ := (needAcc_why q (by omega)).2 x hc
    exact ⟨y, mem_need.2 ((needAcc_mono (show q ≤ ss.length by omega) (Nat.le_refl _)).1 y hy), h⟩
end Go.Proofs.YtfnjhodologfeaaGreat
