/- Parts of the proof: N3, M2, M3, M4, M5, M6. -/
import Derived.Test.YtfnjhodologfeaaGreatG18
import Derived.Test.YtfnjhodologfeaaGreatG16
set_option linter.unusedSimpArgs false
set_option linter.unusedVariables false
/- impl.IsRegularProof -/
namespace Go.Proofs.YtfnjhodologfeaaGreat
open Go.RowKit

theorem firstIrregular_any (vs : Value) (ss : List RS) (w : World) (hs : Steps w vs ss) (hpre : PreOk ss) (hpv : PivOk ss) (hn : ss.length ≤ 100000) :
    Calls Tryz.prog 53 #[vs] w fun e w' => e = .returned (.int .i64 (firstB ss)) ∧ Ext w w' := firstIrregular_of needed_any vs ss w hs hpre hpv hn
set_option maxHeartbeats 1000000 in
theorem IsRegularProof_any (v vs : Value) (f : CNF) (ss : List RS) (w : World) (hx : CnfV w v f) (hs : Steps w vs ss) :
    Calls Tryz.prog 17 #[v, vs] w (Bool2E w (takesB f ss && regB ss) (takesB f ss)) := by
  have hx0 := hx
  obtain ⟨cv, rfl, hl⟩ := hx
  obtain ⟨lb, lc, rfl, _, _, _⟩ := hl.open
  cases ht : takesB f ss
  · go_enter Tryz.func17, Tryz.ntmps17
    go_wp2_with (go_at_call 39; refine (isProof_any _ _ f ss _ (CnfV.ext ⟨_, rfl, hl⟩ (by repeat (first | exact Ext.refl _ | assumption | apply Ext.dn | apply Ext.drew | apply Ext.alloc))) (hs.ext (by repeat (first | exact Ext.refl _ | assumption | apply Ext.dn | apply Ext.drew | apply Ext.alloc)))).mono ?_; rw [ht]; rintro e w1 ⟨rfl, he1⟩; have hE1 : Ext w w1 := Ext.trans (by repeat (first | exact Ext.refl _ | assumption | apply Ext.dn | apply Ext.drew | apply Ext.alloc)) he1)
    go_ret2
    exact ⟨rfl, hE1⟩
  · have HT := Lib.hid ht
    have hpos := (takes_corr ht).1.1
    have hlen := (takes_corr ht).1.2.1
    have HR := Lib.hid (firstB_reg ss)
    cases hb : decide (firstB ss < 0)
    all_goals
      go_enter Tryz.func17, Tryz.ntmps17
      go_wp2_with (first | (go_at_call 39; refine (isProof_any _ _ f ss _ (CnfV.ext ⟨_, rfl, hl⟩ (by repeat (first | exact Ext.refl _ | assumption | apply Ext.dn | apply Ext.drew | apply Ext.alloc))) (hs.ext (by repeat (first | exact Ext.refl _ | assumption | apply Ext.dn | apply Ext.drew | apply Ext.alloc)))).mono ?_; rw [ht]; rintro e w1 ⟨rfl, he1⟩; have hE1 : Ext w w1 := Ext.trans (by repeat (first | exact Ext.refl _ | assumption | apply Ext.dn | apply Ext.drew | apply Ext.alloc)) he1) | (go_at_call 53; refine (firstIrregular_any _ ss _ (hs.ext hE1) (takes_pre HT.out) (takes_piv HT.out) (by omega)).mono ?_; rintro e w2 ⟨rfl, he2⟩))
      go_ret2
      rw [← HR.out, hb]
      exact ⟨by simp [hb], hE1.trans he2⟩
end Go.Proofs.YtfnjhodologfeaaGreat
/- leaves: at most a Fibonacci number of the steps that are no axioms -/
namespace Go.Proofs.YtfnjhodologfeaaGreat
open Go.RowKit

def fibB : Nat → Nat
  | 0 => 1
  | 1 => 2
  | n + 2 => fibB (n + 1) + fibB n
theorem fibB_pos : ∀ n, 1 ≤ fibB n
  | 0 => by decide
  | 1 => by decide
  | n + 2 => by have := fibB_pos (n + 1); have := fibB_pos n; rw [fibB]; omega
theorem fibB_step (n : Nat) : fibB n + 1 ≤ fibB (n + 1) := by
  cases n with
  | zero => decide
  | succ n => have := fibB_pos n; rw [fibB]; omega
theorem fibB_mono {a b : Nat} (h : a ≤ b) : fibB a ≤ fibB b := by
  induction b with
  | zero => obtain rfl : a = 0 := by omega
            exact Nat.le_refl _
  | succ b ih =>
    by_cases hb : a = b + 1
    · subst hb; exact Nat.le_refl _
    · have := ih (by omega); have := fibB_step b; omega
/-- steps that are no axioms among the first ones -/
def rk (ss : List RS) : Nat → Nat
  | 0 => 0
  | k + 1 => rk ss k + (match ss[k]? with | some s => if axB s = true then 0 else 1 | none => 0)
theorem rk_mono (ss : List RS) {a b : Nat} (h : a ≤ b) : rk ss a ≤ rk ss b := by
  induction b with
  | zero => obtain rfl : a = 0 := by omega
            exact Nat.le_refl _
  | succ b ih =>
    by_cases hb : a = b + 1
    · subst hb; exact Nat.le_refl _
    · have := ih (by omega); rw [rk]; omega
theorem rk_non {ss : List RS} {k : Nat} {s : RS} (hs : ss[k]? = some s) (ha : axB s = false) : rk ss (k + 1) = rk ss k + 1 := by
  rw [rk, hs]
  simp [ha]
theorem leaves_rk {ss : List RS} (hpre : PreOk ss) (hne : ∀ (k : Nat) (s : RS), ss[k]? = some s → resB s = true → s.left ≠ s.right) : ∀ (k : Nat), k < ss.length → getI (sumL axN 1000000 ss) (k : Int) ≤ (fibB (rk ss (k + 1)) : Int) := by
  intro k
  induction k using Nat.strongRecOn with
  | ind k ih =>
    intro hk
    have hs : ss[k]? = some ss[k] := List.getElem?_eq_getElem hk
    have hp := hpre k _ hs
    have key : ∀ x : Int, 0 ≤ x → x < (k : Int) → getI (buildTo (sumF axN 1000000) ss k) x = getI (sumL axN 1000000 ss) x := fun x h0 h1 => getI_build_lt _ ss (Nat.le_of_lt hk) h0 h1
    have hax : ∀ j : Nat, (hj : j < ss.length) → axB ss[j] = true → getI (sumL axN 1000000 ss) (j : Int) = 1 := by
      intro j hj ha
      unfold sumL
      rw [getI_build _ ss hj (Nat.le_refl _) (List.getElem?_eq_getElem hj), sumF_cases, if_pos ha]
      simp [axN, ha]
    unfold sumL
    rw [getI_build _ ss hk (Nat.le_refl _) hs, sumF_cases]
    cases ha : axB ss[k]
    · have hown : axN ss[k] = 0 := by simp [axN, ha]
      have hrk := rk_non hs ha
      obtain ⟨l0, l1⟩ := hp _ (prem_left ha)
      obtain ⟨a, hla⟩ := Int.eq_ofNat_of_zero_le l0
      have hal : a < k := by omega
      have va := ih a hal (by omega)
      have ma : fibB (rk ss (a + 1)) ≤ fibB (rk ss k) := fibB_mono (rk_mono ss (by omega))
      have hst := fibB_step (rk ss k)
      rw [hrk, hown, key _ l0 l1]
      cases hr : resB ss[k]
      · simp only [Bool.false_eq_true, if_false]
        rw [hla]
        omega
      · obtain ⟨r0, r1⟩ := hp _ (prem_right ha hr)
        obtain ⟨b, hrb⟩ := Int.eq_ofNat_of_zero_le r0
        have hbl : b < k := by omega
        have vb := ih b hbl (by omega)
        have mb : fibB (rk ss (b + 1)) ≤ fibB (rk ss k) := fibB_mono (rk_mono ss (by omega))
        have hab : a ≠ b := fun e => hne k _ hs hr (by omega)
        rw [key _ r0 r1]
        simp only [Bool.false_eq_true, if_false, if_true]
        rw [hla, hrb]
        have two : ∀ c d : Nat, c < d → d < k → getI (sumL axN 1000000 ss) (c : Int) + getI (sumL axN 1000000 ss) (d : Int) ≤ (fibB (rk ss k + 1) : Int) := by
          intro c d hcd hdk
          have vc := ih c (by omega) (by omega)
          have vd := ih d hdk (by omega)
          cases had : axB (ss[d]'(by omega))
          · have hrd := rk_non (List.getElem?_eq_getElem (show d < ss.length by omega)) had
            have hle : rk ss (d + 1) ≤ rk ss k := rk_mono ss (by omega)
            obtain ⟨n, hn⟩ : ∃ n, rk ss k = n + 1 := ⟨rk ss k - 1, by omega⟩
            have m1 : fibB (rk ss (d + 1)) ≤ fibB (n + 1) := fibB_mono (by omega)
            have m2 : fibB (rk ss (c + 1)) ≤ fibB n := fibB_mono (by have := rk_mono ss (show c + 1 ≤ d by omega); omega)
            have e : fibB (rk ss k + 1) = fibB (n + 1) + fibB n := by rw [hn]; rfl
            omega
          · have := hax d (by omega) had
            have m2 : fibB (rk ss (c + 1)) ≤ fibB (rk ss k) := fibB_mono (rk_mono ss (by omega))
            omega
        rcases Nat.lt_or_gt_of_ne hab with h | h
        · have := two a b h hbl
          omega
        · have := two b a h hal
          omega
    · simp only [if_true]
      have := fibB_pos (rk ss (k + 1))
      simp only [axN, ha, if_true]
      omega
/-- at most 28 steps that are no axioms: all leaves are told -/
theorem leaves_told {f : CNF} {ss : List RS} (ht : takesB f ss = true) (hn : rk ss ss.length ≤ 28) (hne : ∀ (k : Nat) (s : RS), ss[k]? = some s → resB s = true → s.left ≠ s.right) : tellsB f ss = true := by
  have hall : (sumL axN 1000000 ss).all (fun x => decide (x ≤ 1000000)) = true := by
    rw [List.all_eq_true]
    intro x hx
    obtain ⟨j, hj, rfl⟩ := List.mem_iff_getElem.1 hx
    have hl : (sumL axN 1000000 ss).length = ss.length := buildTo_length _ _ _
    have h1 := leaves_rk (takes_pre ht) hne j (by omega)
    have h2 : getI (sumL axN 1000000 ss) (j : Int) = (sumL axN 1000000 ss)[j] := getI_at (List.getElem?_eq_getElem hj)
    have h3 : fibB (rk ss (j + 1)) ≤ fibB 28 := fibB_mono (Nat.le_trans (rk_mono ss (by omega)) hn)
    have h4 : fibB 28 = 832040 := by decide
    simp only [decide_eq_true_eq]
    omega
  unfold tellsB leavesO
  rw [ht, if_pos hall]
  rfl
end Go.Proofs.YtfnjhodologfeaaGreat
/- premises of a resolvent differ; so few resolvents tell all leaves -/
namespace Go.Proofs.YtfnjhodologfeaaGreat
open Go.RowKit

theorem resolve_self {vars : Int} {c d : List Int} {p : Int} (hc : clauseB vars c = true) (hp : 1 ≤ p) (h : resolveL c c p = some d) : False := by
  unfold resolveL at h
  split at h
  · rename_i h1
    obtain ⟨h2, h3⟩ := h1
    unfold hasB at h2 h3
    rw [List.any_eq_true] at h2 h3
    obtain ⟨x, hx, ex⟩ := h2
    obtain ⟨y, hy, ey⟩ := h3
    simp only [beq_iff_eq] at ex ey
    subst ex; subst ey
    have h4 := sa_inj (clauseB_sa hc) hx hy (by rw [absI_neg])
    omega
  · cases h
theorem takes_ne {f : CNF} {ss : List RS} (h : takesB f ss = true) : ∀ (k : Nat) (s : RS), ss[k]? = some s → resB s = true → s.left ≠ s.right := by
  intro k s hs hr e
  obtain ⟨hk, rfl⟩ := List.getElem?_eq_some_iff.1 hs
  have h3 := (takes_corr h).2 k hk
  simp only [correctB, List.getElem?_eq_getElem hk] at h3
  unfold correctAt at h3
  simp only [resB, Bool.and_eq_true, decide_eq_true_eq] at hr
  split at h3
  · cases h3
  · split at h3
    · rename_i h4
      simp at h4
      omega
    · split at h3
      · cases h3
      · rename_i hel
        split at h3
        · rename_i h4
          simp at h4
          omega
        · split at h3
          · cases h3
          · rename_i h4
            have h5 : inB ss[k].pivot 1 f.vars = true := by
              cases h6 : inB ss[k].pivot 1 f.vars with
              | true => rfl
              | false => exact absurd (.inr h6) h4
            have hp : 1 ≤ ss[k].pivot := by simp [inB] at h5; omega
            have hel' : earlierB f ss k ss[k].left = true := by simpa using hel
            obtain ⟨j, e1, e2, e3⟩ := earlierB_at hel'
            rw [← e] at h3
            split at h3
            · cases h3
            · rename_i d hd
              exact resolve_self e3 hp hd
theorem few_told {f : CNF} {ss : List RS} (ht : takesB f ss = true) (hn : rk ss ss.length ≤ 28) : tellsB f ss = true := leaves_told ht hn (takes_ne ht)
end Go.Proofs.YtfnjhodologfeaaGreat
/- an unfolding is correct -/
namespace Go.Proofs.YtfnjhodologfeaaGreat
open Go.RowKit

theorem clAt_append {out T : List RS} {i : Int} (h0 : 0 ≤ i) (h1 : i < (out.length : Int)) : clAt (out ++ T) i = clAt out i := by
  unfold clAt
  rw [List.getElem?_append_left (by omega)]
theorem earlierB_append {f : CNF} {out T : List RS} {k : Nat} {i : Int} (hk : k ≤ out.length) : earlierB f (out ++ T) k i = earlierB f out k i := by
  unfold earlierB
  cases h : inB i 0 ((k : Int) - 1)
  · rfl
  · have h2 : 0 ≤ i ∧ i ≤ (k : Int) - 1 := by simpa [inB] using h
    rw [clAt_append h2.1 (by omega)]
theorem correctAt_append {f : CNF} {out T : List RS} {k : Nat} (c : List Int) (l r p : Int) (hk : k ≤ out.length) : correctAt f (out ++ T) k c l r p = correctAt f out k c l r p := by
  unfold correctAt
  rw [earlierB_append hk, earlierB_append hk]
  cases hl : earlierB f out k l
  · rfl
  · obtain ⟨j, e1, e2, _⟩ := earlierB_at hl
    rw [clAt_append (T := T) (show 0 ≤ l by omega) (by omega)]
    cases hr : earlierB f out k r
    · simp
    · obtain ⟨j2, e3, e4, _⟩ := earlierB_at hr
      rw [clAt_append (T := T) (show 0 ≤ r by omega) (by omega)]
theorem correctB_append {f : CNF} {out T : List RS} {k : Nat} (hk : k < out.length) : correctB f (out ++ T) k = correctB f out k := by
  unfold correctB
  rw [List.getElem?_append_left hk, List.getElem?_eq_getElem hk]
  exact correctAt_append _ _ _ _ (by omega)
/-- all steps are correct -/
def AllC (f : CNF) (ss : List RS) : Prop := ∀ k, k < ss.length → correctB f ss k = true
theorem AllC.snoc {f : CNF} {out : List RS} {s : RS} (h : AllC f out) (hs : correctAt f out out.length s.clause s.left s.right s.pivot = true) : AllC f (out ++ [s]) := by
  intro k hk
  by_cases hlt : k < out.length
  · rw [correctB_append hlt]; exact h k hlt
  · obtain rfl : k = out.length := by simp at hk; omega
    unfold correctB
    rw [List.getElem?_append_right (Nat.le_refl _), Nat.sub_self]
    show correctAt f (out ++ [s]) out.length s.clause s.left s.right s.pivot = true
    rw [correctAt_append _ _ _ _ (Nat.le_refl _)]
    exact hs

theorem clAt_last {out : List RS} {s : RS} : clAt (out ++ [s]) (((out ++ [s]).length : Int) - 1) = s.clause := by
  unfold clAt
  have : ((((out ++ [s]).length : Nat) : Int) - 1).toNat = out.length := by simp
  rw [this, List.getElem?_append_right (Nat.le_refl _), Nat.sub_self]
  rfl
/-- what a correct step's parts are -/
theorem corr_parts {f : CNF} {ss : List RS} {k : Nat} {c : List Int} {l r p : Int} (h : correctAt f ss k c l r p = true) :
    clauseB f.vars c = true ∧ ((l = -1 ∧ ((p == 0) && inB r 0 ((f.clauses.length : Int) - 1) && eqB (f.clauses.getD r.toNat []) c) = true) ∨
      (earlierB f ss k l = true ∧ l ≠ -1 ∧ r = -1 ∧ ((p == 0) && subB (clAt ss l) c) = true) ∨
      (earlierB f ss k l = true ∧ l ≠ -1 ∧ r ≠ -1 ∧ earlierB f ss k r = true ∧ inB p 1 f.vars = true ∧ ∃ d, resolveL (clAt ss l) (clAt ss r) p = some d ∧ eqB d c = true)) := by
  unfold correctAt at h
  split at h
  · cases h
  · rename_i h0
    refine ⟨by simpa using h0, ?_⟩
    split at h
    · rename_i h1
      exact .inl ⟨by simpa using h1, h⟩
    · rename_i h1
      have h1' : l ≠ -1 := by simpa using h1
      split at h
      · cases h
      · rename_i h2
        have h2' : earlierB f ss k l = true := by simpa using h2
        split at h
        · rename_i h3
          exact .inr (.inl ⟨h2', h1', by simpa using h3, h⟩)
        · rename_i h3
          have h3' : r ≠ -1 := by simpa using h3
          split at h
          · cases h
          · rename_i h4
            have h5 : earlierB f ss k r = true := by
              cases h6 : earlierB f ss k r with
              | true => rfl
              | false => exact absurd (.inl h6) h4
            have h7 : inB p 1 f.vars = true := by
              cases h6 : inB p 1 f.vars with
              | true => rfl
              | false => exact absurd (.inr h6) h4
            split at h
            · cases h
            · rename_i d hd
              exact .inr (.inr ⟨h2', h1', h3', h5, h7, d, hd, h⟩)
theorem corr_ax {f : CNF} {ss : List RS} {k : Nat} {c : List Int} {r p : Int} (hc : clauseB f.vars c = true) (h : ((p == 0) && inB r 0 ((f.clauses.length : Int) - 1) && eqB (f.clauses.getD r.toNat []) c) = true) : correctAt f ss k c (-1) r p = true := by
  unfold correctAt
  rw [if_neg (by simp [hc]), if_pos (by decide)]
  exact h
theorem corr_weak {f : CNF} {ss : List RS} {k : Nat} {c : List Int} {l p : Int} (hc : clauseB f.vars c = true) (he : earlierB f ss k l = true) (hl : l ≠ -1) (h : ((p == 0) && subB (clAt ss l) c) = true) : correctAt f ss k c l (-1) p = true := by
  unfold correctAt
  rw [if_neg (by simp [hc]), if_neg (by simpa using hl), if_neg (by simp [he]), if_pos (by decide)]
  exact h
theorem corr_res {f : CNF} {ss : List RS} {k : Nat} {c d : List Int} {l r p : Int} (hc : clauseB f.vars c = true) (he : earlierB f ss k l = true) (hl : l ≠ -1) (hr : r ≠ -1) (her : earlierB f ss k r = true) (hp : inB p 1 f.vars = true) (hd : resolveL (clAt ss l) (clAt ss r) p = some d) (h : eqB d c = true) : correctAt f ss k c l r p = true := by
  unfold correctAt
  rw [if_neg (by simp [hc]), if_neg (by simpa using hl), if_neg (by simp [he]), if_neg (by simpa using hr), if_neg (by simp [her, hp]), hd]
  exact h
theorem unf_corr {f : CNF} {ss : List RS} (ht : takesB f ss = true) : ∀ (n : Nat) (i : Int) (out : List RS), 0 ≤ i → i < n → i < ss.length → AllC f out →
    ∃ T, unfL ss n out i = out ++ T ∧ T ≠ [] ∧ AllC f (unfL ss n out i) ∧ clAt (unfL ss n out i) (((unfL ss n out i).length : Int) - 1) = clAt ss i ∧ clauseB f.vars (clAt ss i) = true
  | 0, i, out, h0, h1, _, _ => by omega
  | n + 1, i, out, h0, h1, h2, hA => by
    obtain ⟨k, rfl⟩ := Int.eq_ofNat_of_zero_le h0
    have hk : k < ss.length := by omega
    have hs : ss[k]? = some ss[k] := List.getElem?_eq_getElem hk
    have hc := (takes_corr ht).2 k hk
    unfold correctB at hc
    rw [hs] at hc
    have hcl : clAt ss (k : Int) = ss[k].clause := by unfold clAt; rw [Int.toNat_natCast, hs]
    obtain ⟨hcb, hor⟩ := corr_parts hc
    have e : unfL ss (n + 1) out (k : Int) = if axB ss[k] = true then out ++ [ss[k]]
      else if resB ss[k] = true then unfL ss n (unfL ss n out ss[k].left) ss[k].right ++ [{ ss[k] with left := ((unfL ss n out ss[k].left).length : Int) - 1, right := ((unfL ss n (unfL ss n out ss[k].left) ss[k].right).length : Int) - 1 }]
      else unfL ss n out ss[k].left ++ [{ ss[k] with left := ((unfL ss n out ss[k].left).length : Int) - 1 }] := by rw [unfL, Int.toNat_natCast, hs]
    rcases hor with ⟨hl, h⟩ | ⟨he, hl, hr, h⟩ | ⟨he, hl, hr, her, hp, d, hd, h⟩
    · have ha : axB ss[k] = true := by simp [axB, hl]
      rw [e, if_pos ha]
      refine ⟨[ss[k]], rfl, by simp, hA.snoc (by rw [hl]; exact corr_ax hcb h), ?_, by rw [hcl]; exact hcb⟩
      rw [clAt_last, hcl]
    · obtain ⟨j, ej, hj, _⟩ := earlierB_at he
      have ha : axB ss[k] = false := by simp [axB]; omega
      have hrb : resB ss[k] = false := by simp [resB]; omega
      obtain ⟨T, h3, h4, h5, h6, h7⟩ := unf_corr ht n ss[k].left out (by omega) (by omega) (by omega) hA
      rw [e, if_neg (by simp [ha]), if_neg (by simp [hrb])]
      generalize unfL ss n out ss[k].left = O1 at h3 h5 h6 ⊢
      have hO : 0 < O1.length := by have := List.length_pos_iff.2 h4; rw [h3, List.length_append]; omega
      refine ⟨T ++ [{ ss[k] with left := (O1.length : Int) - 1 }], by rw [h3, List.append_assoc], by simp, h5.snoc ?_, by rw [clAt_last, hcl], by rw [hcl]; exact hcb⟩
      show correctAt f O1 O1.length ss[k].clause ((O1.length : Int) - 1) ss[k].right ss[k].pivot = true
      rw [hr]
      refine corr_weak hcb ?_ (by omega) (by rw [h6]; exact h)
      unfold earlierB
      rw [h6, h7]
      simp [inB]
      omega
    · obtain ⟨j, ej, hj, _⟩ := earlierB_at he
      obtain ⟨j2, ej2, hj2, _⟩ := earlierB_at her
      have ha : axB ss[k] = false := by simp [axB]; omega
      have hrb : resB ss[k] = true := by simp [resB]; omega
      obtain ⟨T, h3, h4, h5, h6, h7⟩ := unf_corr ht n ss[k].left out (by omega) (by omega) (by omega) hA
      obtain ⟨T2, k3, k4, k5, k6, k7⟩ := unf_corr ht n ss[k].right (unfL ss n out ss[k].left) (by omega) (by omega) (by omega) h5
      rw [e, if_neg (by simp [ha]), if_pos hrb]
      generalize unfL ss n out ss[k].left = O1 at h3 h5 h6 k3 k5 k6 ⊢
      generalize unfL ss n O1 ss[k].right = O2 at k3 k5 k6 ⊢
      have hO : 0 < O1.length := by have := List.length_pos_iff.2 h4; rw [h3, List.length_append]; omega
      have hO2 : O1.length < O2.length := by have := List.length_pos_iff.2 k4; rw [k3, List.length_append]; omega
      have hcO : clAt O2 ((O1.length : Int) - 1) = clAt ss ss[k].left := by rw [k3, clAt_append (by omega) (by omega), h6]
      refine ⟨T ++ (T2 ++ [{ ss[k] with left := (O1.length : Int) - 1, right := (O2.length : Int) - 1 }]), by rw [k3, h3]; simp, by simp, k5.snoc ?_, by rw [clAt_last, hcl], by rw [hcl]; exact hcb⟩
      show correctAt f O2 O2.length ss[k].clause ((O1.length : Int) - 1) ((O2.length : Int) - 1) ss[k].pivot = true
      refine corr_res hcb ?_ (by omega) (by omega) ?_ hp (by rw [hcO, k6]; exact hd) h
      · unfold earlierB
        rw [hcO, h7]
        simp [inB]
        omega
      · unfold earlierB
        rw [k6, k7]
        simp [inB]
        omega
end Go.Proofs.YtfnjhodologfeaaGreat
/- the unfolding of a proof is a proof of the same clause, with as many axioms as the last step has leaves -/
namespace Go.Proofs.YtfnjhodologfeaaGreat
open Go.RowKit

theorem corrTo_of {f : CNF} {ss : List RS} (h : AllC f ss) : ∀ n, n ≤ ss.length → corrTo f ss n = true
  | 0, _ => rfl
  | n + 1, hn => by rw [corrTo, corrTo_of h n (by omega), h n (by omega)]; rfl
theorem takes_unf {f : CNF} {ss : List RS} (ht : takesB f ss = true) (hl : (unfOf ss).length ≤ 200) :
    takesB f (unfOf ss) = true ∧ 0 < (unfOf ss).length ∧ clAt (unfOf ss) (((unfOf ss).length : Int) - 1) = clAt ss ((ss.length : Int) - 1) := by
  obtain ⟨⟨hp, _, hg⟩, _⟩ := takes_corr ht
  obtain ⟨T, h1, h2, h3, h4, h5⟩ := unf_corr ht ss.length ((ss.length : Int) - 1) [] (by omega) (by omega) (by omega) (fun k hk => by simp at hk)
  have h1' : unfOf ss = T := by unfold unfOf; rw [h1]; rfl
  have hpos : 0 < (unfOf ss).length := by rw [h1']; exact List.length_pos_iff.2 h2
  refine ⟨?_, hpos, h4⟩
  simp only [takesB, goodB, askedB, Bool.and_eq_true, decide_eq_true_eq]
  exact ⟨hpos, ⟨hl, hg⟩, corrTo_of h3 _ (Nat.le_refl _)⟩

/-- the leaves of a step -/
def lvs (ss : List RS) : Nat → Int → Int
  | 0, _ => 0
  | n + 1, i => match ss[i.toNat]? with
    | none => 0
    | some s => if axB s = true then 1 else if resB s = true then lvs ss n s.left + lvs ss n s.right else lvs ss n s.left
/-- the axioms in a list -/
def axs (ss : List RS) : Int := ((ss.filter axB).length : Int)
theorem axs_append (a b : List RS) : axs (a ++ b) = axs a + axs b := by simp [axs]
theorem lvs_nonneg (ss : List RS) : ∀ n i, 0 ≤ lvs ss n i
  | 0, i => by simp [lvs]
  | n + 1, i => by
    rw [lvs]
    have h1 := fun i => lvs_nonneg ss n i
    split
    · omega
    · rename_i s _
      have h2 := h1 s.left
      have h3 := h1 s.right
      split
      · omega
      · split <;> omega
theorem axs_one (s : RS) : axs [s] = if axB s = true then 1 else 0 := by
  unfold axs
  cases h : axB s <;> simp [h]
theorem axs_unf {f : CNF} {ss : List RS} (ht : takesB f ss = true) : ∀ (n : Nat) (i : Int) (out : List RS), 0 ≤ i → i < n → i < ss.length → AllC f out → axs (unfL ss n out i) = axs out + lvs ss n i
  | 0, i, out, h0, h1, _, _ => by omega
  | n + 1, i, out, h0, h1, h2, hA => by
    obtain ⟨k, rfl⟩ := Int.eq_ofNat_of_zero_le h0
    have hk : k < ss.length := by omega
    have hs : ss[k]? = some ss[k] := List.getElem?_eq_getElem hk
    have hp := takes_pre ht k _ hs
    rw [unfL, lvs, Int.toNat_natCast, hs]
    simp only []
    cases ha : axB ss[k]
    · obtain ⟨l0, l1⟩ := hp _ (prem_left ha)
      obtain ⟨T, e1, e2, e3, _, _⟩ := unf_corr ht n ss[k].left out l0 (by omega) (by omega) hA
      have ih := axs_unf ht n ss[k].left out l0 (by omega) (by omega) hA
      have hpos : 0 < (unfL ss n out ss[k].left).length := by have := List.length_pos_iff.2 e2; rw [e1, List.length_append]; omega
      cases hr : resB ss[k]
      · simp only [Bool.false_eq_true, if_false]
        rw [axs_append, ih, axs_one, if_neg (by simp [axB]; omega)]
        omega
      · obtain ⟨r0, r1⟩ := hp _ (prem_right ha hr)
        have ih2 := axs_unf ht n ss[k].right (unfL ss n out ss[k].left) r0 (by omega) (by omega) e3
        simp only [Bool.false_eq_true, if_false, if_true]
        rw [axs_append, ih2, ih, axs_one, if_neg (by simp [axB]; omega)]
        omega
    · simp only [if_true]
      rw [axs_append, axs_one, if_pos ha]
theorem lvs_fuel {ss : List RS} (hpre : PreOk ss) : ∀ (n m : Nat) (i : Int), 0 ≤ i → i < (n : Int) → i < (m : Int) → lvs ss n i = lvs ss m i
  | 0, m, i, h0, h1, h2 => by omega
  | n + 1, 0, i, h0, h1, h2 => by omega
  | n + 1, m + 1, i, h0, h1, h2 => by
    rw [lvs, lvs]
    cases h : ss[i.toNat]? with
    | none => rfl
    | some s =>
      have hp := hpre _ s h
      simp only []
      cases ha : axB s
      · obtain ⟨l0, l1⟩ := hp _ (prem_left ha)
        rw [lvs_fuel hpre n m s.left l0 (by omega) (by omega)]
        cases hr : resB s
        · rfl
        · obtain ⟨r0, r1⟩ := hp _ (prem_right ha hr)
          rw [lvs_fuel hpre n m s.right r0 (by omega) (by omega)]
      · rfl
theorem sums_lvs {ss : List RS} (hpre : PreOk ss) : ∀ (k : Nat), k < ss.length → getI (sumL axN 1000000 ss) (k : Int) = min (lvs ss (k + 1) (k : Int)) 1000001 := by
  intro k
  induction k using Nat.strongRecOn with
  | ind k ih =>
    intro hk
    have hs : ss[k]? = some ss[k] := List.getElem?_eq_getElem hk
    have hp := hpre k _ hs
    unfold sumL
    rw [getI_build _ ss hk (Nat.le_refl _) hs, sumF_cases, lvs, Int.toNat_natCast, hs]
    simp only []
    cases ha : axB ss[k]
    · obtain ⟨l0, l1⟩ := hp _ (prem_left ha)
      have hl := ih ss[k].left.toNat (by omega) (by omega)
      rw [Int.toNat_of_nonneg l0] at hl
      have hl2 : getI (buildTo (sumF axN 1000000) ss k) ss[k].left = min (lvs ss k ss[k].left) 1000001 := by
        rw [getI_build_lt _ ss (Nat.le_of_lt hk) l0 l1, lvs_fuel hpre k (ss[k].left.toNat + 1) _ l0 l1 (by omega)]
        exact hl
      have hn1 := lvs_nonneg ss k ss[k].left
      have hown : axN ss[k] = 0 := by simp [axN, ha]
      rw [hl2, hown]
      cases hr : resB ss[k]
      · simp only [Bool.false_eq_true, if_false]
        omega
      · obtain ⟨r0, r1⟩ := hp _ (prem_right ha hr)
        have hr' := ih ss[k].right.toNat (by omega) (by omega)
        rw [Int.toNat_of_nonneg r0] at hr'
        have hr2 : getI (buildTo (sumF axN 1000000) ss k) ss[k].right = min (lvs ss k ss[k].right) 1000001 := by
          rw [getI_build_lt _ ss (Nat.le_of_lt hk) r0 r1, lvs_fuel hpre k (ss[k].right.toNat + 1) _ r0 r1 (by omega)]
          exact hr'
        have hn2 := lvs_nonneg ss k ss[k].right
        rw [hr2]
        simp only [Bool.false_eq_true, if_false, if_true]
        omega
    · simp only [if_true, axN, ha]
      omega
end Go.Proofs.YtfnjhodologfeaaGreat
/- depths; leaves are at most 2 to the power of the depth -/
namespace Go.Proofs.YtfnjhodologfeaaGreat
open Go.RowKit

/-- the depth of a step -/
def dpt (ss : List RS) : Nat → Int → Nat
  | 0, _ => 0
  | n + 1, i => match ss[i.toNat]? with
    | none => 0
    | some s => if axB s = true then 0 else if resB s = true then 1 + max (dpt ss n s.left) (dpt ss n s.right) else dpt ss n s.left
theorem dpt_fuel {ss : List RS} (hpre : PreOk ss) : ∀ (n m : Nat) (i : Int), 0 ≤ i → i < (n : Int) → i < (m : Int) → dpt ss n i = dpt ss m i
  | 0, m, i, h0, h1, h2 => by omega
  | n + 1, 0, i, h0, h1, h2 => by omega
  | n + 1, m + 1, i, h0, h1, h2 => by
    rw [dpt, dpt]
    cases h : ss[i.toNat]? with
    | none => rfl
    | some s =>
      have hp := hpre _ s h
      simp only []
      cases ha : axB s
      · obtain ⟨l0, l1⟩ := hp _ (prem_left ha)
        rw [dpt_fuel hpre n m s.left l0 (by omega) (by omega)]
        cases hr : resB s
        · rfl
        · obtain ⟨r0, r1⟩ := hp _ (prem_right ha hr)
          rw [dpt_fuel hpre n m s.right r0 (by omega) (by omega)]
      · rfl
theorem lvs_dpt (ss : List RS) : ∀ (n : Nat) (i : Int), lvs ss n i ≤ ((2 ^ dpt ss n i : Nat) : Int)
  | 0, i => by simp [lvs, dpt]
  | n + 1, i => by
    rw [lvs, dpt]
    cases h : ss[i.toNat]? with
    | none => simp
    | some s =>
      simp only []
      cases ha : axB s
      · have h1 := lvs_dpt ss n s.left
        have h2 := lvs_dpt ss n s.right
        cases hr : resB s
        · simp only [Bool.false_eq_true, if_false]
          exact h1
        · simp only [Bool.false_eq_true, if_false, if_true]
          have e1 : 2 ^ dpt ss n s.left ≤ 2 ^ max (dpt ss n s.left) (dpt ss n s.right) := Nat.pow_le_pow_right (by omega) (Nat.le_max_left _ _)
          have e2 : 2 ^ dpt ss n s.right ≤ 2 ^ max (dpt ss n s.left) (dpt ss n s.right) := Nat.pow_le_pow_right (by omega) (Nat.le_max_right _ _)
          have e3 : 2 ^ (1 + max (dpt ss n s.left) (dpt ss n s.right)) = 2 * 2 ^ max (dpt ss n s.left) (dpt ss n s.right) := by rw [Nat.add_comm, Nat.pow_succ, Nat.mul_comm]
          rw [e3]
          generalize 2 ^ max (dpt ss n s.left) (dpt ss n s.right) = M at e1 e2 ⊢
          generalize 2 ^ dpt ss n s.left = A at h1 e1
          generalize 2 ^ dpt ss n s.right = B at h2 e2
          omega
      · simp
theorem dep_dpt {ss : List RS} (hpre : PreOk ss) : ∀ (k : Nat), k < ss.length → getI (depL ss) (k : Int) = (dpt ss (k + 1) (k : Int) : Int) := by
  intro k
  induction k using Nat.strongRecOn with
  | ind k ih =>
    intro hk
    have hs : ss[k]? = some ss[k] := List.getElem?_eq_getElem hk
    have hp := hpre k _ hs
    unfold depL
    rw [getI_build _ ss hk (Nat.le_refl _) hs, dpt, Int.toNat_natCast, hs]
    simp only []
    cases ha : axB ss[k]
    · obtain ⟨l0, l1⟩ := hp _ (prem_left ha)
      have hl := ih ss[k].left.toNat (by omega) (by omega)
      rw [Int.toNat_of_nonneg l0] at hl
      have hl2 : getI (buildTo depF ss k) ss[k].left = (dpt ss k ss[k].left : Int) := by
        rw [getI_build_lt _ ss (Nat.le_of_lt hk) l0 l1, dpt_fuel hpre k (ss[k].left.toNat + 1) _ l0 l1 (by omega)]
        exact hl
      cases hr : resB ss[k]
      · rw [depF_wk ha hr (by omega), hl2]
        simp
      · obtain ⟨r0, r1⟩ := hp _ (prem_right ha hr)
        have hr' := ih ss[k].right.toNat (by omega) (by omega)
        rw [Int.toNat_of_nonneg r0] at hr'
        have hr2 : getI (buildTo depF ss k) ss[k].right = (dpt ss k ss[k].right : Int) := by
          rw [getI_build_lt _ ss (Nat.le_of_lt hk) r0 r1, dpt_fuel hpre k (ss[k].right.toNat + 1) _ r0 r1 (by omega)]
          exact hr'
        rw [depF_res ha hr (by omega), hl2, hr2]
        simp only [Bool.false_eq_true, if_false, if_true]
        omega
    · rw [depF_ax ha]
      simp
end Go.Proofs.YtfnjhodologfeaaGreat
