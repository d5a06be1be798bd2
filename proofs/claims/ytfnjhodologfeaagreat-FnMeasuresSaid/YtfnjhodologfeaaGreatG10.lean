/- Parts of the proof: C3, C4. -/
import Derived.Test.YtfnjhodologfeaaGreatG09
import Derived.Deep.AppendLies
import Derived.Deep.RegionLaw
set_option linter.unusedSimpArgs false
set_option linter.unusedVariables false
/- l8Axiom, l8Resolvent, l8Premises, l1Most, l8Depths -/
namespace Go.Proofs.YtfnjhodologfeaaGreat
open Go.RowKit

set_option maxHeartbeats 400000 in
theorem l8Axiom_any (v : Value) (s : RS) (w : World) (hv : StepV w v s) :
    Calls Tryz.prog 76 #[v] w (BoolE w (axB s)) := by
  obtain ⟨ub, uc, rfl, _⟩ := hv.open
  go_enter Tryz.func76, Tryz.ntmps76
  go_wp2
  go_ret
  exact boolE rfl (by repeat (first | exact Ext.refl _ | assumption | apply Ext.dn | apply Ext.drew | apply Ext.alloc))

set_option maxHeartbeats 400000 in
theorem l8Resolvent_any (v : Value) (s : RS) (w : World) (hv : StepV w v s) :
    Calls Tryz.prog 66 #[v] w (BoolE w (resB s)) := by
  obtain ⟨ub, uc, rfl, _⟩ := hv.open
  by_cases h : 0 ≤ s.left
  all_goals
    go_enter Tryz.func66, Tryz.ntmps66
    go_wp2
    go_ret
  · exact boolE (by simp [resB, h]) (by repeat (first | exact Ext.refl _ | assumption | apply Ext.dn | apply Ext.drew | apply Ext.alloc))
  · exact boolE (by have : ¬ 0 ≤ s.left := by omega
                    simp [resB, this]) (by repeat (first | exact Ext.refl _ | assumption | apply Ext.dn | apply Ext.drew | apply Ext.alloc))

set_option maxHeartbeats 400000 in
theorem l1Most_any (a b : Int) (w : World) :
    Calls Tryz.prog 82 #[.int .i64 a, .int .i64 b] w fun e w' => e = .returned (.int .i64 (max a b)) ∧ w = w' := by
  by_cases h : b < a
  all_goals
    go_enter Tryz.func82, Tryz.ntmps82
    go_wp2
    go_ret
    exact ⟨ret_int (by omega), rfl⟩

theorem depF_ax {acc : List Int} {s : RS} (h : axB s = true) : depF acc s = 0 := by
  have h' : s.left < 0 := by simpa [axB] using h
  have hr : resB s = false := by simp [resB]; omega
  simp [depF, premL, h', hr]
theorem depF_res {acc : List Int} {s : RS} (h : axB s = false) (h2 : resB s = true) (hl : 0 ≤ getI acc s.left) : depF acc s = 1 + max (getI acc s.left) (getI acc s.right) := by
  have h' : ¬ s.left < 0 := by simpa [axB] using h
  have h3 : 0 ≤ s.right := by simp [resB] at h2; exact h2.2
  have h4 : ¬ s.right < 0 := by omega
  simp only [depF, premL, h', h4, h2, if_true, if_false, List.foldl_cons, List.foldl_nil]
  omega
theorem depF_wk {acc : List Int} {s : RS} (h : axB s = false) (h2 : resB s = false) (hl : 0 ≤ getI acc s.left) : depF acc s = getI acc s.left := by
  have h' : ¬ s.left < 0 := by simpa [axB] using h
  have h3 : s.right < 0 := by simp [resB] at h2; omega
  simp only [depF, premL, h', h3, h2, if_true, if_false, List.foldl_cons, List.foldl_nil, Bool.false_eq_true]
  omega
theorem prem_left {s : RS} (h : axB s = false) : s.left ∈ premL s := by
  have h' : ¬ s.left < 0 := by simpa [axB] using h
  unfold premL
  rw [if_neg h']
  split <;> simp
theorem prem_right {s : RS} (h : axB s = false) (h2 : resB s = true) : s.right ∈ premL s := by
  have h' : ¬ s.left < 0 := by simpa [axB] using h
  have h3 : 0 ≤ s.right := by simp [resB] at h2; exact h2.2
  unfold premL
  rw [if_neg h', if_neg (by omega)]
  simp

theorem own_len {w : World} {B : Nat} {v : Value} {xs : List Int} (h : OwnI w B v xs) (h0 : 0 < xs.length) : ∃ g cap, v = .slice (some ⟨g, 0, none⟩) xs.length cap ∧ xs.length ≤ cap ∧ cap ≤ 9223372036854775807 ∧ B ≤ g ∧ g < w.heap.size := by
  rcases h.form with ⟨rfl, rfl⟩ | h
  · simp at h0
  · exact h

set_option maxRecDepth 100000 in
set_option maxHeartbeats 2000000 in
theorem l8Depths_any (vs : Value) (ss : List RS) (w : World) (hs : Steps w vs ss) (hpre : PreOk ss) (hn : ss.length ≤ 100000) :
    Calls Tryz.prog 47 #[vs] w (NewI w (depL ss)) := by
  obtain ⟨base, cap, rfl, hc1, hc2, hcell⟩ := hs.open
  have HBD := Lib.hid (depF_bd hpre)
  have HPR := Lib.hid hpre
  clear hpre
  go_enter Tryz.func47, Tryz.ntmps47
  go_wp2
  go_loopw [3, 4] (fun o i wr => ∃ k : Nat, k ≤ ss.length ∧ i = .int .i64 k ∧ OwnI wr w.heap.size o (buildTo depF ss k) ∧ Ext w wr) (fun _ i _ => ss.length - (intOf i).toNat)
  case atStart => exact ⟨0, Nat.zero_le _, rfl, OwnI.empty w _ (Nat.le_refl _), (by repeat (first | exact Ext.refl _ | assumption | apply Ext.dn | apply Ext.drew | apply Ext.alloc))⟩
  case round =>
    obtain ⟨k, hk, rfl, hown, hext⟩ := hrel
    by_cases hlt : k < ss.length
    · obtain ⟨b, off, rfl, hb, hcs⟩ := hcell k hlt
      obtain ⟨s, u, hsk, hci⟩ := hcs k hlt
      have hcA := hci
      obtain ⟨hu0, hu1, hu2, hu3, hcI⟩ := hci wr hext
      obtain ⟨ub, uc, rfl, _, _, _⟩ := hcI.open
      have hSV : ∀ w', Ext w w' → StepV w' (.agg #[.slice ub s.clause.length uc, .int .i64 s.left, .int .i64 s.right, .int .i64 s.pivot]) s := fun w' h => ⟨_, rfl, (hci _ h).2.2.2.2⟩
      have HPk := Lib.hid (HPR.out k s hsk)
      have hal := buildTo_length depF ss k
      have hab := HBD.out k hk
      generalize hacc : buildTo depF ss k = acc at hown hal hab
      have HBS := Lib.hid (show buildTo depF ss (k + 1) = acc ++ [depF acc s] by rw [buildTo_succ hsk, hacc])
      have hal3 : acc.length ≤ 100000 := by omega
      clear hcell hcs hci hsk hacc
      cases ha : axB s
      · obtain ⟨hl0, hl1⟩ := HPk.out _ (prem_left ha)
        have hlp := (hab _ (getI_mem hl0 (by omega))).1
        obtain ⟨g, oc, rfl, hoc1, hoc2, hg1, hg2⟩ := own_len hown (by omega)
        have hL := getI_some hl0 (l := acc) (by omega)
        have hll : s.left < (acc.length : Int) := by omega
        cases hr : resB s
        · have HV := Lib.hid (depF_wk ha hr hlp)
          have HA := Lib.hid hal
          clear hal hab
          go_wp2_with (first | (go_at_call 76; refine (l8Axiom_any _ s _ (hSV _ (by repeat (first | exact Ext.refl _ | assumption | apply Ext.dn | apply Ext.drew | apply Ext.alloc)))).mono ?_; rw [ha]; rintro e w2 ⟨rfl, hd2⟩; have hx2 := hext.trans hd2; obtain ⟨hu0, hu1, hu2, hu3, _⟩ := hcA _ hx2) | (go_at_call 66; refine (l8Resolvent_any _ s _ (hSV _ hx2)).mono ?_; rw [hr]; rintro e w3 ⟨rfl, hd3⟩; have hx3 := hx2.trans hd3; obtain ⟨hu0, hu1, hu2, hu3, _⟩ := hcA _ hx3; have hown3 := hown.ext (hd2.trans hd3); have hcl := (hown3.at rfl hL).1) | (at_builtin; refine wpList_appI rfl _ _ rfl w.heap.size _ _ acc [getI acc s.left] rfl rfl (hown3.alloc _) (ints_one _ _) (by simp; omega) (by have := hx3.size; simp; omega) ?_; intro v' w4 ho4 hg4 _))
          exact ⟨⟨k + 1, by omega, by go_num, by rw [HBS.out, HV.out]; exact ho4, below_grown (hx3.alloc _) (hown3.alloc _) (hx3.alloc _).size hg4⟩, by simp [intOf]; omega⟩
        · have HV := Lib.hid (depF_res ha hr hlp)
          obtain ⟨hr0, hr1⟩ := HPk.out _ (prem_right ha hr)
          have hR := getI_some hr0 (l := acc) (by omega)
          have hrl : s.right < (acc.length : Int) := by omega
          have hrb := hab _ (getI_mem hr0 (by omega))
          have hlb := hab _ (getI_mem hl0 (by omega))
          have hov : IntKind.i64.wrap (1 + max (getI acc s.left) (getI acc s.right)) = 1 + max (getI acc s.left) (getI acc s.right) := IntWalk.i64_in _ ⟨by omega, by omega⟩
          have HA := Lib.hid hal
          clear hal hab hrb hlb hlp
          have HOV := Lib.hid hov
          clear hov
          go_wp2_with (first | (go_at_call 76; refine (l8Axiom_any _ s _ (hSV _ (by repeat (first | exact Ext.refl _ | assumption | apply Ext.dn | apply Ext.drew | apply Ext.alloc)))).mono ?_; rw [ha]; rintro e w2 ⟨rfl, hd2⟩; have hx2 := hext.trans hd2; obtain ⟨hu0, hu1, hu2, hu3, _⟩ := hcA _ hx2) | (go_at_call 66; refine (l8Resolvent_any _ s _ (hSV _ hx2)).mono ?_; rw [hr]; rintro e w3 ⟨rfl, hd3⟩; have hx3 := hx2.trans hd3; obtain ⟨hu0, hu1, hu2, hu3, _⟩ := hcA _ hx3; have hown3 := hown.ext (hd2.trans hd3); have hcl := (hown3.at rfl hL).1))
          have hcr := (hown3.at rfl hR).1
          generalize getI acc s.left = GL at hcl HV HOV
          generalize getI acc s.right = GR at hcr HV HOV
          have hov := HOV.out
          go_region_law (first
            | (refine step_appI rfl (.tmp 38) (.tmp 57) rfl w.heap.size (.slice (some ⟨g, 0, none⟩) acc.length oc) _ acc [1 + max GL GR] rfl rfl (OwnI.mono (hown3.alloc _) (Nat.le_refl _)) (ints_one w3.drew (1 + max GL GR)) (by simp; omega) (by have := hx3.size; simp; omega) ?_; intro v' w4 ho4 hg4 _)
            | (go_simp; go_at_call 82; refine (l1Most_any GL GR _).mono ?_; rintro e w4 ⟨rfl, rfl⟩))
          all_goals
            go_wp2
            exact ⟨⟨k + 1, by omega, by go_num, by rw [HBS.out, HV.out]; exact ho4, below_grown (hx3.alloc _).drew (v := .slice (some ⟨g, 0, none⟩) acc.length oc) (hown3.alloc _) (hx3.alloc _).size hg4⟩, by simp [intOf]; omega⟩
      · have HV := Lib.hid (depF_ax (acc := acc) ha)
        go_wp2_with (first | (go_at_call 76; refine (l8Axiom_any _ s _ (hSV _ (by repeat (first | exact Ext.refl _ | assumption | apply Ext.dn | apply Ext.drew | apply Ext.alloc)))).mono ?_; rw [ha]; rintro e w2 ⟨rfl, hd2⟩; have hx2 := hext.trans hd2; obtain ⟨hu0, hu1, hu2, hu3, _⟩ := hcA _ hx2) | (at_builtin; refine wpList_appI rfl _ _ rfl w.heap.size _ _ acc [0] rfl rfl ((hown.ext hd2).alloc _) (ints_one _ _) (by simp; omega) (by have := hx2.size; simp; omega) ?_; intro v' w4 ho4 hg4 _))
        exact ⟨⟨k + 1, by omega, by go_num, by rw [HBS.out, HV.out]; exact ho4, below_grown (hx2.alloc _) ((hown.ext hd2).alloc _) (hx2.alloc _).size hg4⟩, by simp [intOf]; omega⟩
    · obtain rfl : k = ss.length := by omega
      clear hcell
      go_wp2
      go_ret
      exact ⟨_, rfl, hown, hext⟩
end Go.Proofs.YtfnjhodologfeaaGreat
/- l8Premises, l8Leaves -/
namespace Go.Proofs.YtfnjhodologfeaaGreat
open Go.RowKit

set_option maxHeartbeats 1000000 in
theorem l8Premises_any (v : Value) (s : RS) (w : World) (hv : StepV w v s) :
    Calls Tryz.prog 65 #[v] w (NewI w (premL s)) := by
  have hv0 := hv
  obtain ⟨ub, uc, rfl, _⟩ := hv.open
  cases ha : axB s
  · have ha' : ¬ s.left < 0 := by simpa [axB] using ha
    cases hr : resB s
    · have hr' : s.right < 0 := by
        have : 0 ≤ s.left := by omega
        simpa [resB, this] using hr
      have HP := Lib.hid (show premL s = [s.left] by simp [premL, ha', hr'])
      go_enter Tryz.func65, Tryz.ntmps65
      go_wp2_with (first | (go_at_call 76; refine (l8Axiom_any _ s _ (hv0.ext (by repeat (first | exact Ext.refl _ | assumption | apply Ext.dn | apply Ext.drew | apply Ext.alloc)))).mono ?_; rw [ha]; rintro e w1 ⟨rfl, hd1⟩; obtain ⟨g0, g1, g2, g3, hE1⟩ := own4_cells hd1) | (go_at_call 66; refine (l8Resolvent_any _ s _ (hv0.ext (by repeat (first | exact Ext.refl _ | assumption | apply Ext.dn | apply Ext.drew | apply Ext.alloc)))).mono ?_; rw [hr]; rintro e w2 ⟨rfl, hd2⟩; obtain ⟨g0, g1, g2, g3, hE2⟩ := own4_cells (hd1.trans hd2)))
      go_ret
      rw [HP.out]
      exact ⟨_, rfl, World.ownsRow_lit w2 _ 1 hE2.size (by simp [maxLen]) rfl, hE2.alloc _⟩
    · have hr' : ¬ s.right < 0 := by
        have : 0 ≤ s.left := by omega
        simpa [resB, this] using hr
      have HP := Lib.hid (show premL s = [s.left, s.right] by simp [premL, ha', hr'])
      go_enter Tryz.func65, Tryz.ntmps65
      go_wp2_with (first | (go_at_call 76; refine (l8Axiom_any _ s _ (hv0.ext (by repeat (first | exact Ext.refl _ | assumption | apply Ext.dn | apply Ext.drew | apply Ext.alloc)))).mono ?_; rw [ha]; rintro e w1 ⟨rfl, hd1⟩; obtain ⟨g0, g1, g2, g3, hE1⟩ := own4_cells hd1) | (go_at_call 66; refine (l8Resolvent_any _ s _ (hv0.ext (by repeat (first | exact Ext.refl _ | assumption | apply Ext.dn | apply Ext.drew | apply Ext.alloc)))).mono ?_; rw [hr]; rintro e w2 ⟨rfl, hd2⟩; obtain ⟨g0, g1, g2, g3, hE2⟩ := own4_cells (hd1.trans hd2)))
      go_ret
      rw [HP.out]
      exact ⟨_, rfl, World.ownsRow_lit w2 _ 2 hE2.size (by simp [maxLen]) rfl, hE2.alloc _⟩
  · have ha' : s.left < 0 := by simpa [axB] using ha
    have HP := Lib.hid (show premL s = [] by simp [premL, ha'])
    go_enter Tryz.func65, Tryz.ntmps65
    go_wp2_with (go_at_call 76; refine (l8Axiom_any _ s _ (hv0.ext (by repeat (first | exact Ext.refl _ | assumption | apply Ext.dn | apply Ext.drew | apply Ext.alloc)))).mono ?_; rw [ha]; rintro e w1 ⟨rfl, hd1⟩; obtain ⟨g0, g1, g2, g3, hE1⟩ := own4_cells hd1)
    go_ret
    rw [HP.out]
    exact ⟨_, rfl, OwnI.empty w1 _ hE1.size, hE1.alloc _⟩

/-- own number and those of the premises, up to one more than L -/
def sumF (own : RS → Int) (L : Int) (acc : List Int) (s : RS) : Int := (premL s).foldl (fun v p => min (v + getI acc p) (L + 1)) (own s)
def sumL (own : RS → Int) (L : Int) (ss : List RS) : List Int := buildTo (sumF own L) ss ss.length
def axN (s : RS) : Int := if axB s then 1 else 0

theorem capfold {acc : List Int} {L : Int} (hacc : ∀ x ∈ acc, 0 ≤ x) : ∀ (P : List Int) (v : Int), (∀ p ∈ P, 0 ≤ p ∧ p < acc.length) →
    P.foldl (fun v p => min (v + getI acc p) (L + 1)) (min v (L + 1)) = min (P.foldl (fun v p => v + getI acc p) v) (L + 1)
  | [], v, _ => rfl
  | p :: P, v, hP => by
    have hp := hP p (by simp)
    have hg := hacc _ (getI_mem hp.1 hp.2)
    have ih := capfold hacc (L := L) P (v + getI acc p) (fun q hq => hP q (by simp [hq]))
    simp only [List.foldl_cons]
    rw [← ih]
    congr 1
    omega
theorem capfold_bd {acc : List Int} {L : Int} (hL : 0 ≤ L) (hacc : ∀ x ∈ acc, 0 ≤ x) : ∀ (P : List Int) (v : Int), (∀ p ∈ P, 0 ≤ p ∧ p < acc.length) → 0 ≤ v → v ≤ L + 1 →
    0 ≤ P.foldl (fun v p => min (v + getI acc p) (L + 1)) v ∧ P.foldl (fun v p => min (v + getI acc p) (L + 1)) v ≤ L + 1
  | [], v, _, h0, h1 => ⟨h0, h1⟩
  | p :: P, v, hP, h0, h1 => by
    have hp := hP p (by simp)
    have hg := hacc _ (getI_mem hp.1 hp.2)
    exact capfold_bd hL hacc P (min (v + getI acc p) (L + 1)) (fun q hq => hP q (by simp [hq])) (by omega) (by omega)
theorem sumF_bd {own : RS → Int} {L : Int} (hL : 0 ≤ L) (how : ∀ s, 0 ≤ own s ∧ own s ≤ L + 1) {ss : List RS} (hpre : PreOk ss) : ∀ k, k ≤ ss.length → ∀ x ∈ buildTo (sumF own L) ss k, 0 ≤ x ∧ x ≤ L + 1 := by
  intro k
  induction k with
  | zero => intro _ x hx; simp [buildTo] at hx
  | succ k ih =>
    intro hk x hx
    have hsk : ss[k]? = some (ss[k]'(by omega)) := List.getElem?_eq_getElem (by omega)
    rw [buildTo_succ hsk] at hx
    rcases List.mem_append.1 hx with h | h
    · exact ih (by omega) x h
    · simp only [List.mem_singleton] at h
      subst h
      have how1 := how ss[k]
      exact capfold_bd hL (fun x hx => (ih (by omega) x hx).1) (premL ss[k]) (own ss[k]) (fun p hp => by
        have := hpre k _ hsk p hp
        rw [buildTo_length]; exact this) how1.1 how1.2
theorem axN_bd (L : Int) (hL : 0 ≤ L) (s : RS) : 0 ≤ axN s ∧ axN s ≤ L + 1 := by
  unfold axN
  split <;> omega

/-- the leaves of the steps, if there are at most L at each -/
def leavesO (ss : List RS) : Option (List Int) := if (sumL axN 1000000 ss).all (fun x => decide (x ≤ 1000000)) = true then some (sumL axN 1000000 ss) else none
theorem foldl_add_bd {acc : List Int} (hM : ∀ x ∈ acc, 0 ≤ x ∧ x ≤ 1000000) : ∀ (P : List Int) (v : Int), (∀ p ∈ P, 0 ≤ p ∧ p < acc.length) → 0 ≤ v → 0 ≤ P.foldl (fun v p => v + getI acc p) v ∧ P.foldl (fun v p => v + getI acc p) v ≤ v + 1000000 * P.length
  | [], v, _, h0 => by simp; exact h0
  | p :: P, v, hP, h0 => by
    have hp := hP p (by simp)
    have hg := hM _ (getI_mem hp.1 hp.2)
    have := foldl_add_bd hM P (v + getI acc p) (fun q hq => hP q (by simp [hq])) (by omega)
    simp only [List.foldl_cons, List.length_cons]
    omega
theorem sumF_ax {acc : List Int} {s : RS} (h : premL s = []) : sumF axN 1000000 acc s = 1 := by
  have : s.left < 0 := by
    unfold premL at h
    split at h
    · assumption
    · split at h <;> simp at h
  simp [sumF, h, axN, axB, this]
theorem sumF_non {acc : List Int} {s : RS} (h : premL s ≠ []) (hacc : ∀ x ∈ acc, 0 ≤ x) (hP : ∀ p ∈ premL s, 0 ≤ p ∧ p < acc.length) : sumF axN 1000000 acc s = min ((premL s).foldl (fun v p => v + getI acc p) 0) 1000001 := by
  have : ¬ s.left < 0 := by
    intro h2
    simp [premL, h2] at h
  have := capfold hacc (L := 1000000) (premL s) 0 hP
  have ha : axN s = 0 := by
    have : axB s = false := by simp [axB]; omega
    simp [axN, this]
  unfold sumF
  rw [ha]
  exact this
theorem leaves_none {ss : List RS} {k : Nat} (hk : k < ss.length) (h : ∃ x ∈ buildTo (sumF axN 1000000) ss (k + 1), 1000000 < x) : leavesO ss = none := by
  obtain ⟨x, hx, hx2⟩ := h
  have hs : ¬ (sumL axN 1000000 ss).all (fun x => decide (x ≤ 1000000)) = true := by
    intro h
    rw [List.all_eq_true] at h
    have hm : x ∈ sumL axN 1000000 ss := by
      unfold sumL
      rw [← buildTo_take (sumF axN 1000000) ss (show k + 1 ≤ ss.length by omega)] at hx
      exact List.mem_of_mem_take hx
    have := h x hm
    simp at this
    omega
  rw [leavesO, if_neg hs]

set_option maxRecDepth 100000 in
set_option maxHeartbeats 2000000 in
theorem l8Leaves_any (vs : Value) (ss : List RS) (w : World) (hs : Steps w vs ss) (hpre : PreOk ss) (hn : ss.length ≤ 100000) :
    Calls Tryz.prog 51 #[vs] w (NewO w (leavesO ss)) := by
  obtain ⟨base, cap, rfl, hc1, hc2, hcell⟩ := hs.open
  have HPR := Lib.hid hpre
  clear hpre
  go_enter Tryz.func51, Tryz.ntmps51
  go_wp2
  go_loopw [4, 5] (fun o i wr => ∃ k : Nat, k ≤ ss.length ∧ i = .int .i64 k ∧ OwnI wr w.heap.size o (buildTo (sumF axN 1000000) ss k) ∧ Ext w wr ∧ ∀ x ∈ buildTo (sumF axN 1000000) ss k, 0 ≤ x ∧ x ≤ 1000000) (fun _ i _ => ss.length - (intOf i).toNat)
  case atStart => exact ⟨0, Nat.zero_le _, rfl, OwnI.empty w _ (Nat.le_refl _), (by repeat (first | exact Ext.refl _ | assumption | apply Ext.dn | apply Ext.drew | apply Ext.alloc)), fun x hx => (by simp [buildTo] at hx)⟩
  case round =>
    obtain ⟨k, hk, rfl, hown, hext, hab⟩ := hrel
    by_cases hlt : k < ss.length
    · obtain ⟨b, off, rfl, hb, hcs⟩ := hcell k hlt
      obtain ⟨s, u, hsk, hci⟩ := hcs k hlt
      obtain ⟨hu0, hu1, hu2, hu3, hcI⟩ := hci wr hext
      obtain ⟨ub, uc, rfl, _, _, _⟩ := hcI.open
      have hSV : ∀ w', Ext w w' → StepV w' (.agg #[.slice ub s.clause.length uc, .int .i64 s.left, .int .i64 s.right, .int .i64 s.pivot]) s := fun w' h => ⟨_, rfl, (hci _ h).2.2.2.2⟩
      have HPk := Lib.hid (HPR.out k s hsk)
      have hal := buildTo_length (sumF axN 1000000) ss k
      have HLN := Lib.hid (leaves_none (k := k) hlt)
      generalize hacc : buildTo (sumF axN 1000000) ss k = acc at hown hal hab
      have HBS := Lib.hid (show buildTo (sumF axN 1000000) ss (k + 1) = acc ++ [sumF axN 1000000 acc s] by rw [buildTo_succ hsk, hacc])
      have hal3 : acc.length ≤ 100000 := by omega
      have HAB := Lib.hid hab
      have HSA := Lib.hid (sumF_ax (acc := acc) (s := s))
      have HSN := Lib.hid (fun h => sumF_non (acc := acc) (s := s) h (fun x hx => (hab x hx).1) (fun p hp => by have := HPk.out p hp; omega))
      have hpl := premL_len s
      have HPk' := Lib.hid (show ∀ p ∈ premL s, 0 ≤ p ∧ p < (acc.length : Int) from fun p hp => by have := HPk.out p hp; omega)
      clear hcell hcs hci hsk hacc hab
      go_wp2_with (first | (go_at_call 65; refine (l8Premises_any _ s _ (hSV _ hext)).mono ?_; rintro e w2 ⟨r2, rfl, ho2, he2⟩; obtain ⟨rb, rc, rfl, hrc1, hrc2, hrcell⟩ := ho2.ints.open))
      have hx2 := hext.trans he2
      have hown2 := hown.ext he2
      clear ho2 hown
      go_loop [6, 8] (fun n i => ∃ j : Nat, j ≤ (premL s).length ∧ i = .int .i64 j ∧ n = .int .i64 (((premL s).take j).foldl (fun v p => v + getI acc p) 0)) (fun _ i => (premL s).length - (intOf i).toNat)
      case atStart => exact ⟨0, Nat.zero_le _, rfl, rfl⟩
      case round =>
        obtain ⟨j, hj, rfl, rfl⟩ := hrel
        by_cases hjl : j < (premL s).length
        · obtain ⟨gb, go, rfl, _, hri⟩ := hrcell j hjl
          obtain ⟨p, hpj, hpc⟩ := hri j hjl
          have hpc' := hpc _ (.refl _)
          have hpm := List.mem_of_getElem? hpj
          obtain ⟨hp0, hp1⟩ := HPk.out p hpm
          obtain ⟨g, oc, rfl, hoc1, hoc2, hg1, hg2⟩ := own_len hown2 (by omega)
          have hcp := (hown2.at rfl (getI_some hp0 (by omega))).1
          have hpl2 : p < (acc.length : Int) := by omega
          have hg3 := HAB.out _ (getI_mem hp0 hpl2)
          have hb1 := foldl_add_bd HAB.out ((premL s).take j) 0 (fun p hp => by have := HPk.out p (List.mem_of_mem_take hp); omega) (by omega)
          have hb2 : ((premL s).take j).length ≤ 2 := by simp; omega
          have HT := Lib.hid (foldl_take_succ (g := fun v p => v + getI acc p) (v := 0) hpj)
          clear hrcell hri hpc hpj hpm
          generalize ((premL s).take j).foldl (fun v p => v + getI acc p) 0 = V at hb1 HT ⊢
          generalize ((premL s).take j).length = Q at hb1 hb2
          generalize getI acc p = G at hcp hg3 HT
          go_wp2
          exact ⟨⟨j + 1, by omega, by go_num, by rw [HT.out]⟩, by simp [intOf]; omega⟩
        · have hjP : (premL s).take j = premL s := List.take_of_length_le (by omega)
          rw [hjP]
          have hb1 := foldl_add_bd HAB.out (premL s) 0 HPk'.out (by omega)
          clear hrcell
          by_cases hP0 : (premL s).length = 0
          · have hnil : premL s = [] := List.eq_nil_of_length_eq_zero hP0
            have HV := Lib.hid (HSA.out hnil)
            clear hnil
            go_wp2_with (first | (at_builtin; refine wpList_appI rfl _ _ rfl w.heap.size _ _ acc [1] rfl rfl (hown2.alloc _) (ints_one _ _) (by simp; omega) (by have := hx2.size; simp; omega) ?_; intro v' w4 ho4 hg4 _))
            refine ⟨⟨k + 1, by omega, by go_num, by rw [HBS.out, HV.out]; exact ho4, below_grown (hx2.alloc _) (hown2.alloc _) (hx2.alloc _).size hg4, ?_⟩, by simp [intOf]; omega⟩
            rw [HBS.out, HV.out]
            intro x hx
            rcases List.mem_append.1 hx with h | h
            · exact HAB.out x h
            · simp at h; omega
          · have hnil : premL s ≠ [] := fun h => hP0 (by rw [h]; rfl)
            have HV := Lib.hid (HSN.out hnil)
            clear hnil
            have hP1 : ¬ ((premL s).length : Int) = 0 := by omega
            generalize (premL s).foldl (fun v p => v + getI acc p) 0 = N at hb1 HV ⊢
            by_cases hN : N > 1000000
            · have HNN := Lib.hid (HLN.out ⟨sumF axN 1000000 acc s, by rw [HBS.out]; simp, by rw [HV.out]; omega⟩)
              go_wp2
              go_ret2
              rw [HNN.out]
              exact ⟨_, rfl, OwnI.empty w2 _ hx2.size, hx2.alloc _⟩
            · have HV2 := Lib.hid (show sumF axN 1000000 acc s = N by rw [HV.out]; omega)
              go_wp2_with (first | (at_builtin; refine wpList_appI rfl _ _ rfl w.heap.size _ _ acc [N] rfl rfl (hown2.alloc _) (ints_one _ _) (by simp; omega) (by have := hx2.size; simp; omega) ?_; intro v' w4 ho4 hg4 _))
              refine ⟨⟨k + 1, by omega, by go_num, by rw [HBS.out, HV2.out]; exact ho4, below_grown (hx2.alloc _) (hown2.alloc _) (hx2.alloc _).size hg4, ?_⟩, by simp [intOf]; omega⟩
              rw [HBS.out, HV2.out]
              intro x hx
              rcases List.mem_append.1 hx with h | h
              · exact HAB.out x h
              · simp at h; omega
    · obtain rfl : k = ss.length := by omega
      clear hcell
      have HA := Lib.hid (show leavesO ss = some (sumL axN 1000000 ss) by
        have : (sumL axN 1000000 ss).all (fun x => decide (x ≤ 1000000)) = true := by
          rw [List.all_eq_true]
          intro x hx
          simpa using (hab x hx).2
        rw [leavesO, if_pos this])
      clear hab
      go_wp2
      go_ret2
      rw [HA.out]
      exact ⟨_, rfl, hown, hext⟩
end Go.Proofs.YtfnjhodologfeaaGreat
