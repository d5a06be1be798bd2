/- Parts of the proof: F2. the law FnMeasures: its walk, given what is drawn -/
import Derived.Test.YtfnjhodologfeaaGreatG25
set_option linter.unusedSimpArgs false
set_option linter.unusedVariables false
/- the law FnMeasures: its walk, given what is drawn -/
namespace Go.Proofs.YtfnjhodologfeaaGreat
open Go.RowKit

theorem shl_ok {L : Int} {D : Nat} (h : L ≤ ((2 ^ D : Nat) : Int)) (hD : (D : Int) < 40) : L ≤ wrap64 ((2 : Int) ^ D) := by
  have e : ((2 ^ D : Nat) : Int) = (2 : Int) ^ D := by push_cast; rfl
  have h2 : 2 ^ D ≤ 2 ^ 40 := Nat.pow_le_pow_right (by omega) (by omega)
  rw [← e]
  generalize 2 ^ D = X at *
  rw [IntWalk.wrap64_in _ ⟨by omega, by omega⟩]
  exact h
theorem takes_left {f : CNF} {ss : List RS} (h : takesB f ss = true) {k : Nat} {s : RS} (hs : ss[k]? = some s) : s.left = -1 ∨ 0 ≤ s.left := by
  obtain ⟨hk, rfl⟩ := List.getElem?_eq_some_iff.1 hs
  have h3 := (takes_corr h).2 k hk
  simp only [correctB, List.getElem?_eq_getElem hk] at h3
  unfold correctAt at h3
  split at h3
  · cases h3
  · split at h3
    · rename_i h4
      left
      simpa using h4
    · split at h3
      · cases h3
      · rename_i h4
        have hel : earlierB f ss k ss[k].left = true := by simpa using h4
        obtain ⟨j, e1, e2, e3⟩ := earlierB_at hel
        right
        omega
theorem axB_no {s : RS} (h : 0 ≤ s.left) : axB s = false := by
  unfold axB
  rw [decide_eq_false_iff_not]
  omega
theorem axs_snoc (l : List RS) (s : RS) : axs (l ++ [s]) = axs l + (if axB s = true then 1 else 0) := by
  rw [axs_append]
  congr 1
  cases h : axB s <;> simp [axs, h]
theorem quiet_b {P : Program} {f : FuncId} {args : Array Value} {w : World} {b c : Bool} (h : Calls P f args w fun e w' => e = .returned (.bool b) ∧ Drew w w') (hb : b = c) : Calls P f args w fun e w' => e = .returned (.bool c) ∧ ∃ n, w' = w.drewN n := by
  subst hb
  exact h
theorem tree_all (ss : List RS) (h : 0 < ss.length) : (usesL ss).all (fun x => decide (x ≤ 1)) = treeB ss := by
  unfold treeB
  rw [maxL_all 1 (usesL ss) (fun e => by have := usesL_len ss; rw [e] at this; simp at this; omega)]
theorem Ints.lastAt {w : World} {base : Option Addr} {n cap : Nat} {xs : List Int} (h : Ints w (.slice base n cap) xs) (hn : 0 < n) : ∃ b off, base = some ⟨b, off, none⟩ ∧ b < w.heap.size ∧ ∀ w', Ext w w' → w'.cell? ⟨b, off + (n - 1), none⟩ = some (.int .i64 (getI xs ((n : Int) - 1))) := by
  obtain ⟨_, _, e, _, _, hc⟩ := h.open
  injection e with e1 e2 e3
  subst e1; subst e2; subst e3
  obtain ⟨b, off, e4, hb, hx⟩ := hc (xs.length - 1) (by omega)
  obtain ⟨x, hx1, hx2⟩ := hx (xs.length - 1) (by omega)
  refine ⟨b, off, e4, hb, fun w' hw => ?_⟩
  rw [hx2 w' hw, show ((xs.length : Int) - 1) = ((xs.length - 1 : Nat) : Int) by omega, getI_at hx1]
set_option maxRecDepth 100000 in
set_option maxHeartbeats 4000000 in
theorem law_of (hD : DrawSaid) (v : Value) (bs : List Int) (w : World) (hb : Byts w v bs) : Calls Tryz.prog 3 #[v] w fun e w' => e = .returned (.bool true) ∧ Ext w w' := by
  have hb0 := hb
  obtain ⟨base, cap, rfl, h1, h2, _⟩ := hb.open
  have HD := Lib.hid hD
  clear hD
  go_enter Tryz.func3, Tryz.ntmps3
  go_wp2_with fail
  refine (rBig_any _ bs w hb0).mono ?_
  by_cases hbig : 65536 < bs.length
  · rw [show decide (65536 < bs.length) = true by simpa using hbig]
    rintro e w1 ⟨rfl, rfl⟩
    go_wp2
    go_ret
    exact ⟨rfl, .refl _⟩
  · rw [show decide (65536 < bs.length) = false by simpa using hbig]
    rintro e w1 ⟨rfl, rfl⟩
    go_wp2_with fail
    refine (HD.out _ bs w hb0 (by omega)).mono ?_
    rintro e w2 ⟨n, cv, pv, rfl, f, ss, rfl, hls, hst, hlen, hrk, hE2⟩
    obtain ⟨cb, cc, rfl, _, _, _⟩ := hls.open
    obtain ⟨sb, sc, rfl, _, _, _⟩ := hst.open
    obtain ⟨wB, hwB⟩ : ∃ wB, w2.alloc (.cells #[.int .i64 f.vars, .slice cb f.clauses.length cc] 26) = wB := ⟨_, rfl⟩
    have hB : CBlk wB w2.heap.size f.vars (.slice cb f.clauses.length cc) := by rw [← hwB]; exact CBlk.made _ _ _
    have hE2B : Ext w2 wB := by rw [← hwB]; exact (by repeat (first | exact Ext.refl _ | assumption | apply Ext.dn | apply Ext.drew | apply Ext.alloc))
    have hlB := hls.ext hE2B
    have hsB := hst.ext hE2B
    obtain ⟨_, _⟩ := hB.cells
    cases ht : takesB f ss
    · as_aux_lemma =>
        have HT := Lib.hid ht
        have HUN := Lib.hid (show unfB f ss = false by simp [unfB, ht])
        have HTL := Lib.hid (show tellsB f ss = false by simp [tellsB, ht])
        clear ht hrk
        go_wp2_with (first | (go_at_call 7; refine (UnfoldProof_any _ _ f ss _ ⟨_, rfl, hlB.ext (by repeat (first | exact Ext.refl _ | assumption | apply Ext.dn | apply Ext.drew | apply Ext.alloc))⟩ (hsB.ext (by repeat (first | exact Ext.refl _ | assumption | apply Ext.dn | apply Ext.drew | apply Ext.alloc)))).mono ?_; rw [HUN.out]; rintro e w3 ⟨r3, rfl, hs3, he3⟩; have hE3 : Ext wB w3 := Ext.trans (by repeat (first | exact Ext.refl _ | assumption | apply Ext.dn | apply Ext.drew | apply Ext.alloc)) he3; obtain ⟨_, _⟩ := (hB.ext hE3).cells) | (go_at_call 8; refine (sUnfoldProof_any _ _ f ss _ ⟨_, rfl, hlB.ext (by repeat (first | exact Ext.refl _ | assumption | apply Ext.dn | apply Ext.drew | apply Ext.alloc))⟩ (hsB.ext (by repeat (first | exact Ext.refl _ | assumption | apply Ext.dn | apply Ext.drew | apply Ext.alloc)))).mono ?_; rw [HUN.out]; rintro e w4 ⟨r4, rfl, hs4, he4⟩; have hE4 : Ext wB w4 := Ext.trans (by repeat (first | exact Ext.refl _ | assumption | apply Ext.dn | apply Ext.drew | apply Ext.alloc)) he4; obtain ⟨_, _⟩ := (hB.ext hE4).cells; have hs3' := hs3.ext (Ext.trans (by repeat (first | exact Ext.refl _ | assumption | apply Ext.dn | apply Ext.drew | apply Ext.alloc)) he4)) | (go_at_call 9; refine (rSteps_same _ _ _ _ (hs3'.ext (by repeat (first | exact Ext.refl _ | assumption | apply Ext.dn | apply Ext.drew | apply Ext.alloc))) (hs4.ext (by repeat (first | exact Ext.refl _ | assumption | apply Ext.dn | apply Ext.drew | apply Ext.alloc)))).mono ?_; rintro e w5 ⟨rfl, he5⟩; have hE5 : Ext wB w5 := Ext.trans (by repeat (first | exact Ext.refl _ | assumption | apply Ext.dn | apply Ext.drew | apply Ext.alloc)) he5; obtain ⟨_, _⟩ := (hB.ext hE5).cells; have hs3'' := hs3'.ext (Ext.trans (by repeat (first | exact Ext.refl _ | assumption | apply Ext.dn | apply Ext.drew | apply Ext.alloc)) he5)) | (go_at_call 10; refine (StepDepths_any _ _ f ss _ ⟨_, rfl, hlB.ext (by repeat (first | exact Ext.refl _ | assumption | apply Ext.dn | apply Ext.drew | apply Ext.alloc))⟩ (hsB.ext (by repeat (first | exact Ext.refl _ | assumption | apply Ext.dn | apply Ext.drew | apply Ext.alloc)))).mono ?_; rw [HT.out]; rintro e w6 ⟨r6, rfl, hi6, he6⟩; have hE6 : Ext wB w6 := Ext.trans (by repeat (first | exact Ext.refl _ | assumption | apply Ext.dn | apply Ext.drew | apply Ext.alloc)) he6; obtain ⟨_, _⟩ := (hB.ext hE6).cells; have hs36 := hs3''.ext (Ext.trans (by repeat (first | exact Ext.refl _ | assumption | apply Ext.dn | apply Ext.drew | apply Ext.alloc)) he6)) | (go_at_call 11; refine (sStepDepths_any _ _ f ss _ ⟨_, rfl, hlB.ext (by repeat (first | exact Ext.refl _ | assumption | apply Ext.dn | apply Ext.drew | apply Ext.alloc))⟩ (hsB.ext (by repeat (first | exact Ext.refl _ | assumption | apply Ext.dn | apply Ext.drew | apply Ext.alloc)))).mono ?_; rw [HT.out]; rintro e w7 ⟨r7, rfl, hi7, he7⟩; have hE7 : Ext wB w7 := Ext.trans (by repeat (first | exact Ext.refl _ | assumption | apply Ext.dn | apply Ext.drew | apply Ext.alloc)) he7; obtain ⟨_, _⟩ := (hB.ext hE7).cells; have hi67 := hi6.ext (Ext.trans (by repeat (first | exact Ext.refl _ | assumption | apply Ext.dn | apply Ext.drew | apply Ext.alloc)) he7); have hs37 := hs36.ext (Ext.trans (by repeat (first | exact Ext.refl _ | assumption | apply Ext.dn | apply Ext.drew | apply Ext.alloc)) he7)) | (go_at_call 12; refine (rInts_any _ _ _ _ _ (hi9a.ext (by repeat (first | exact Ext.refl _ | assumption | apply Ext.dn | apply Ext.drew | apply Ext.alloc))) (hi10.ext (by repeat (first | exact Ext.refl _ | assumption | apply Ext.dn | apply Ext.drew | apply Ext.alloc)))).mono ?_; rw [eqB_self]; rintro e w11 ⟨rfl, hd11⟩; have he11 := hd11.ext; have hE11 : Ext wB w11 := Ext.trans (by repeat (first | exact Ext.refl _ | assumption | apply Ext.dn | apply Ext.drew | apply Ext.alloc)) he11; obtain ⟨_, _⟩ := (hB.ext hE11).cells; have hi9b := hi9a.ext (Ext.trans (by repeat (first | exact Ext.refl _ | assumption | apply Ext.dn | apply Ext.drew | apply Ext.alloc)) he11); have hi6b := hi6a.ext (Ext.trans (by repeat (first | exact Ext.refl _ | assumption | apply Ext.dn | apply Ext.drew | apply Ext.alloc)) he11); have hs3b := hs3a.ext (Ext.trans (by repeat (first | exact Ext.refl _ | assumption | apply Ext.dn | apply Ext.drew | apply Ext.alloc)) he11)) | (go_at_call 12; refine (rInts_any _ _ _ _ _ (hi67.ext (by repeat (first | exact Ext.refl _ | assumption | apply Ext.dn | apply Ext.drew | apply Ext.alloc))) (hi7.ext (by repeat (first | exact Ext.refl _ | assumption | apply Ext.dn | apply Ext.drew | apply Ext.alloc)))).mono ?_; rw [eqB_self]; rintro e w8 ⟨rfl, hd8⟩; have he8 := hd8.ext; have hE8 : Ext wB w8 := Ext.trans (by repeat (first | exact Ext.refl _ | assumption | apply Ext.dn | apply Ext.drew | apply Ext.alloc)) he8; obtain ⟨_, _⟩ := (hB.ext hE8).cells; have hi68 := hi67.ext (Ext.trans (by repeat (first | exact Ext.refl _ | assumption | apply Ext.dn | apply Ext.drew | apply Ext.alloc)) he8); have hs38 := hs37.ext (Ext.trans (by repeat (first | exact Ext.refl _ | assumption | apply Ext.dn | apply Ext.drew | apply Ext.alloc)) he8)) | (go_at_call 13; refine (StepLeaves_any _ _ f ss _ ⟨_, rfl, hlB.ext (by repeat (first | exact Ext.refl _ | assumption | apply Ext.dn | apply Ext.drew | apply Ext.alloc))⟩ (hsB.ext (by repeat (first | exact Ext.refl _ | assumption | apply Ext.dn | apply Ext.drew | apply Ext.alloc)))).mono ?_; rw [HTL.out]; rintro e w9 ⟨r9, rfl, hi9, he9⟩; have hE9 : Ext wB w9 := Ext.trans (by repeat (first | exact Ext.refl _ | assumption | apply Ext.dn | apply Ext.drew | apply Ext.alloc)) he9; obtain ⟨_, _⟩ := (hB.ext hE9).cells; have hi69 := hi68.ext (Ext.trans (by repeat (first | exact Ext.refl _ | assumption | apply Ext.dn | apply Ext.drew | apply Ext.alloc)) he9); have hs39 := hs38.ext (Ext.trans (by repeat (first | exact Ext.refl _ | assumption | apply Ext.dn | apply Ext.drew | apply Ext.alloc)) he9)) | (go_at_call 14; refine (sStepLeaves_any _ _ f ss _ ⟨_, rfl, hlB.ext (by repeat (first | exact Ext.refl _ | assumption | apply Ext.dn | apply Ext.drew | apply Ext.alloc))⟩ (hsB.ext (by repeat (first | exact Ext.refl _ | assumption | apply Ext.dn | apply Ext.drew | apply Ext.alloc)))).mono ?_; rw [HTL.out]; rintro e w10 ⟨r10, rfl, hi10, he10⟩; have hE10 : Ext wB w10 := Ext.trans (by repeat (first | exact Ext.refl _ | assumption | apply Ext.dn | apply Ext.drew | apply Ext.alloc)) he10; obtain ⟨_, _⟩ := (hB.ext hE10).cells; have hi9a := hi9.ext (Ext.trans (by repeat (first | exact Ext.refl _ | assumption | apply Ext.dn | apply Ext.drew | apply Ext.alloc)) he10); have hi6a := hi69.ext (Ext.trans (by repeat (first | exact Ext.refl _ | assumption | apply Ext.dn | apply Ext.drew | apply Ext.alloc)) he10); have hs3a := hs39.ext (Ext.trans (by repeat (first | exact Ext.refl _ | assumption | apply Ext.dn | apply Ext.drew | apply Ext.alloc)) he10)))
        go_ret
        exact ⟨rfl, hE2.trans (hE2B.trans (by first | exact hE11 | exact hE10))⟩
    · as_aux_lemma =>
        have HT := Lib.hid ht
        have htl := few_told ht (hrk ht)
        have HTL := Lib.hid htl
        have hpos := (takes_corr ht).1.1
        have hl2 := (takes_corr ht).1.2.1
        have hD0 := Lib.hid (dep_dpt (takes_pre ht) (ss.length - 1) (by omega))
        have hbd := Lib.hid (last_bound ht)
        cases hun : unfB f ss
        · as_aux_lemma =>
            have HUN := Lib.hid hun
            clear hun ht htl hrk
            go_wp2_with (first | (go_at_call 7; refine (UnfoldProof_any _ _ f ss _ ⟨_, rfl, hlB.ext (by repeat (first | exact Ext.refl _ | assumption | apply Ext.dn | apply Ext.drew | apply Ext.alloc))⟩ (hsB.ext (by repeat (first | exact Ext.refl _ | assumption | apply Ext.dn | apply Ext.drew | apply Ext.alloc)))).mono ?_; rw [HUN.out]; rintro e w3 ⟨r3, rfl, hs3, he3⟩; have hE3 : Ext wB w3 := Ext.trans (by repeat (first | exact Ext.refl _ | assumption | apply Ext.dn | apply Ext.drew | apply Ext.alloc)) he3; obtain ⟨_, _⟩ := (hB.ext hE3).cells) | (go_at_call 8; refine (sUnfoldProof_any _ _ f ss _ ⟨_, rfl, hlB.ext (by repeat (first | exact Ext.refl _ | assumption | apply Ext.dn | apply Ext.drew | apply Ext.alloc))⟩ (hsB.ext (by repeat (first | exact Ext.refl _ | assumption | apply Ext.dn | apply Ext.drew | apply Ext.alloc)))).mono ?_; rw [HUN.out]; rintro e w4 ⟨r4, rfl, hs4, he4⟩; have hE4 : Ext wB w4 := Ext.trans (by repeat (first | exact Ext.refl _ | assumption | apply Ext.dn | apply Ext.drew | apply Ext.alloc)) he4; obtain ⟨_, _⟩ := (hB.ext hE4).cells; have hs3' := hs3.ext (Ext.trans (by repeat (first | exact Ext.refl _ | assumption | apply Ext.dn | apply Ext.drew | apply Ext.alloc)) he4)) | (go_at_call 9; refine (rSteps_same _ _ _ _ (hs3'.ext (by repeat (first | exact Ext.refl _ | assumption | apply Ext.dn | apply Ext.drew | apply Ext.alloc))) (hs4.ext (by repeat (first | exact Ext.refl _ | assumption | apply Ext.dn | apply Ext.drew | apply Ext.alloc)))).mono ?_; rintro e w5 ⟨rfl, he5⟩; have hE5 : Ext wB w5 := Ext.trans (by repeat (first | exact Ext.refl _ | assumption | apply Ext.dn | apply Ext.drew | apply Ext.alloc)) he5; obtain ⟨_, _⟩ := (hB.ext hE5).cells; have hs3'' := hs3'.ext (Ext.trans (by repeat (first | exact Ext.refl _ | assumption | apply Ext.dn | apply Ext.drew | apply Ext.alloc)) he5)) | ((go_at_call 10; refine (StepDepths_any _ _ f ss _ ⟨_, rfl, hlB.ext (by repeat (first | exact Ext.refl _ | assumption | apply Ext.dn | apply Ext.drew | apply Ext.alloc))⟩ (hsB.ext (by repeat (first | exact Ext.refl _ | assumption | apply Ext.dn | apply Ext.drew | apply Ext.alloc)))).mono ?_; rw [HT.out]; rintro e w6 ⟨r6, rfl, hi6, he6⟩; have hE6 : Ext wB w6 := Ext.trans (by repeat (first | exact Ext.refl _ | assumption | apply Ext.dn | apply Ext.drew | apply Ext.alloc)) he6; obtain ⟨_, _⟩ := (hB.ext hE6).cells; have hs36 := hs3''.ext (Ext.trans (by repeat (first | exact Ext.refl _ | assumption | apply Ext.dn | apply Ext.drew | apply Ext.alloc)) he6)); change Ints _ _ (depL ss) at hi6; obtain ⟨db, dc, rfl, hdc1, hdc2⟩ := hi6.openN (depL_len ss)) | ((go_at_call 11; refine (sStepDepths_any _ _ f ss _ ⟨_, rfl, hlB.ext (by repeat (first | exact Ext.refl _ | assumption | apply Ext.dn | apply Ext.drew | apply Ext.alloc))⟩ (hsB.ext (by repeat (first | exact Ext.refl _ | assumption | apply Ext.dn | apply Ext.drew | apply Ext.alloc)))).mono ?_; rw [HT.out]; rintro e w7 ⟨r7, rfl, hi7, he7⟩; have hE7 : Ext wB w7 := Ext.trans (by repeat (first | exact Ext.refl _ | assumption | apply Ext.dn | apply Ext.drew | apply Ext.alloc)) he7; obtain ⟨_, _⟩ := (hB.ext hE7).cells; have hi67 := hi6.ext (Ext.trans (by repeat (first | exact Ext.refl _ | assumption | apply Ext.dn | apply Ext.drew | apply Ext.alloc)) he7); have hs37 := hs36.ext (Ext.trans (by repeat (first | exact Ext.refl _ | assumption | apply Ext.dn | apply Ext.drew | apply Ext.alloc)) he7)); change Ints _ _ (depL ss) at hi7) | (go_at_call 12; refine (rInts_any _ _ _ _ _ (hi9a.ext (by repeat (first | exact Ext.refl _ | assumption | apply Ext.dn | apply Ext.drew | apply Ext.alloc))) (hi10.ext (by repeat (first | exact Ext.refl _ | assumption | apply Ext.dn | apply Ext.drew | apply Ext.alloc)))).mono ?_; rw [eqB_self]; rintro e w11 ⟨rfl, hd11⟩; have he11 := hd11.ext; have hE11 : Ext wB w11 := Ext.trans (by repeat (first | exact Ext.refl _ | assumption | apply Ext.dn | apply Ext.drew | apply Ext.alloc)) he11; obtain ⟨_, _⟩ := (hB.ext hE11).cells; have hi9b := hi9a.ext (Ext.trans (by repeat (first | exact Ext.refl _ | assumption | apply Ext.dn | apply Ext.drew | apply Ext.alloc)) he11); have hi6b := hi6a.ext (Ext.trans (by repeat (first | exact Ext.refl _ | assumption | apply Ext.dn | apply Ext.drew | apply Ext.alloc)) he11); have hs3b := hs3a.ext (Ext.trans (by repeat (first | exact Ext.refl _ | assumption | apply Ext.dn | apply Ext.drew | apply Ext.alloc)) he11)) | (go_at_call 12; refine (rInts_any _ _ _ _ _ (hi67.ext (by repeat (first | exact Ext.refl _ | assumption | apply Ext.dn | apply Ext.drew | apply Ext.alloc))) (hi7.ext (by repeat (first | exact Ext.refl _ | assumption | apply Ext.dn | apply Ext.drew | apply Ext.alloc)))).mono ?_; rw [eqB_self]; rintro e w8 ⟨rfl, hd8⟩; have he8 := hd8.ext; have hE8 : Ext wB w8 := Ext.trans (by repeat (first | exact Ext.refl _ | assumption | apply Ext.dn | apply Ext.drew | apply Ext.alloc)) he8; obtain ⟨_, _⟩ := (hB.ext hE8).cells; have hi68 := hi67.ext (Ext.trans (by repeat (first | exact Ext.refl _ | assumption | apply Ext.dn | apply Ext.drew | apply Ext.alloc)) he8); have hs38 := hs37.ext (Ext.trans (by repeat (first | exact Ext.refl _ | assumption | apply Ext.dn | apply Ext.drew | apply Ext.alloc)) he8)) | ((go_at_call 13; refine (StepLeaves_any _ _ f ss _ ⟨_, rfl, hlB.ext (by repeat (first | exact Ext.refl _ | assumption | apply Ext.dn | apply Ext.drew | apply Ext.alloc))⟩ (hsB.ext (by repeat (first | exact Ext.refl _ | assumption | apply Ext.dn | apply Ext.drew | apply Ext.alloc)))).mono ?_; rw [HTL.out]; rintro e w9 ⟨r9, rfl, hi9, he9⟩; have hE9 : Ext wB w9 := Ext.trans (by repeat (first | exact Ext.refl _ | assumption | apply Ext.dn | apply Ext.drew | apply Ext.alloc)) he9; obtain ⟨_, _⟩ := (hB.ext hE9).cells; have hi69 := hi68.ext (Ext.trans (by repeat (first | exact Ext.refl _ | assumption | apply Ext.dn | apply Ext.drew | apply Ext.alloc)) he9); have hs39 := hs38.ext (Ext.trans (by repeat (first | exact Ext.refl _ | assumption | apply Ext.dn | apply Ext.drew | apply Ext.alloc)) he9)); change Ints _ _ (sumL axN 1000000 ss) at hi9; obtain ⟨eb, ec, rfl, hec1, hec2⟩ := hi9.openN (sumL_len _ _ ss)) | ((go_at_call 14; refine (sStepLeaves_any _ _ f ss _ ⟨_, rfl, hlB.ext (by repeat (first | exact Ext.refl _ | assumption | apply Ext.dn | apply Ext.drew | apply Ext.alloc))⟩ (hsB.ext (by repeat (first | exact Ext.refl _ | assumption | apply Ext.dn | apply Ext.drew | apply Ext.alloc)))).mono ?_; rw [HTL.out]; rintro e w10 ⟨r10, rfl, hi10, he10⟩; have hE10 : Ext wB w10 := Ext.trans (by repeat (first | exact Ext.refl _ | assumption | apply Ext.dn | apply Ext.drew | apply Ext.alloc)) he10; obtain ⟨_, _⟩ := (hB.ext hE10).cells; have hi9a := hi9.ext (Ext.trans (by repeat (first | exact Ext.refl _ | assumption | apply Ext.dn | apply Ext.drew | apply Ext.alloc)) he10); have hi6a := hi69.ext (Ext.trans (by repeat (first | exact Ext.refl _ | assumption | apply Ext.dn | apply Ext.drew | apply Ext.alloc)) he10); have hs3a := hs39.ext (Ext.trans (by repeat (first | exact Ext.refl _ | assumption | apply Ext.dn | apply Ext.drew | apply Ext.alloc)) he10)); change Ints _ _ (sumL axN 1000000 ss) at hi10))
            obtain ⟨d1, d2, rfl, _, hdl⟩ := hi6b.lastAt hpos
            obtain ⟨e1, e2, rfl, _, hel⟩ := hi9b.lastAt hpos
            have hdl0 := hdl _ (.refl _)
            have hel0 := hel _ (.refl _)
            have hbD := hbd.out
            have hDD := hD0.out
            rw [show ((ss.length - 1 : Nat) : Int) = (ss.length : Int) - 1 by omega] at hDD
            obtain ⟨DD, hDe⟩ : ∃ DD : Nat, getI (depL ss) ((ss.length : Int) - 1) = (DD : Int) := ⟨_, hDD⟩
            obtain ⟨LL, hLe⟩ : ∃ LL : Int, getI (sumL axN 1000000 ss) ((ss.length : Int) - 1) = LL := ⟨_, rfl⟩
            rw [hDe, hLe, Int.toNat_natCast] at hbD
            rw [hDe] at hdl0
            rw [hLe] at hel0
            clear hdl hel hDD hDe hLe
            have hl0 : (0 : Int) ≤ (ss.length : Int) - 1 := by omega
            have hl1 : (ss.length : Int) - 1 < ss.length := by omega
            have hsh := fun h => shl_ok hbD h
            have HSH := Lib.hid hsh
            clear hsh hbD
            by_cases h40 : (DD : Int) < 40
            all_goals
              as_aux_lemma =>
                first | (have hsh2 := HSH.out h40; have hsh3 := Int.not_lt.2 hsh2; have hsh4 := decide_eq_false hsh3) | skip
                go_quiet (fail)
                go_wp2_with (first | (go_at_call 15; refine (StepUses_any _ _ f ss _ ⟨_, rfl, hlB.ext (Ext.trans hE11 (by repeat (first | exact Ext.refl _ | assumption | apply Ext.dn | apply Ext.drew | apply Ext.alloc)))⟩ (hsB.ext (Ext.trans hE11 (by repeat (first | exact Ext.refl _ | assumption | apply Ext.dn | apply Ext.drew | apply Ext.alloc))))).mono ?_; rw [HT.out]; rintro e w12 ⟨r12, rfl, hi12, he12⟩; change Ints _ _ (usesL ss) at hi12; have hE12 : Ext wB w12 := Ext.trans (Ext.trans hE11 (by repeat (first | exact Ext.refl _ | assumption | apply Ext.dn | apply Ext.drew | apply Ext.alloc))) he12; obtain ⟨_, _⟩ := (hB.ext hE12).cells; obtain ⟨ub, uc, rfl, huc1, huc2⟩ := hi12.openN (usesL_len ss)) | (go_at_call 16; refine (IsTreeLike_any _ _ f ss _ ⟨_, rfl, hlB.ext (Ext.trans hE12 (by repeat (first | exact Ext.refl _ | assumption | apply Ext.dn | apply Ext.drew | apply Ext.alloc)))⟩ (hsB.ext (Ext.trans hE12 (by repeat (first | exact Ext.refl _ | assumption | apply Ext.dn | apply Ext.drew | apply Ext.alloc))))).mono ?_; rw [HT.out, Bool.true_and]; rintro e w13 ⟨rfl, he13⟩; have hE13 : Ext wB w13 := Ext.trans (Ext.trans hE12 (by repeat (first | exact Ext.refl _ | assumption | apply Ext.dn | apply Ext.drew | apply Ext.alloc))) he13; obtain ⟨_, _⟩ := (hB.ext hE13).cells))
                obtain ⟨TB, hTB⟩ : ∃ TB, treeB ss = TB := ⟨_, rfl⟩
                have HTB := Lib.hid (show (usesL ss).all (fun x => decide (x ≤ 1)) = TB by rw [← hTB]; exact tree_all ss hpos)
                rw [hTB]
                clear hTB
                have hi13 := hi12.ext (Ext.trans (by repeat (first | exact Ext.refl _ | assumption | apply Ext.dn | apply Ext.drew | apply Ext.alloc)) he13)
                go_loop [22, 23] (fun o i => ∃ k : Nat, i = .int .i64 k ∧ k ≤ ss.length ∧ o = .bool (((usesL ss).take k).all (fun x => decide (x ≤ 1)))) (fun _ i => ss.length - (intOf i).toNat)
                case atStart => exact ⟨0, rfl, Nat.zero_le _, by simp⟩
                case round =>
                  obtain ⟨k, rfl, hk, rfl⟩ := hrel
                  by_cases hlt : k < ss.length
                  · obtain ⟨_, _, eU, _, _, huc⟩ := hi13.open
                    injection eU with eU1 _ eU3
                    subst eU1; subst eU3
                    obtain ⟨b6, o6, rfl, _, hx6⟩ := huc k (by rw [usesL_len]; exact hlt)
                    obtain ⟨x, hxk, hxc⟩ := hx6 k (by rw [usesL_len]; exact hlt)
                    have hx0 := hxc _ (.refl _)
                    have HT6 := Lib.hid (show ((usesL ss).take (k + 1)).all (fun x => decide (x ≤ 1)) = (((usesL ss).take k).all (fun x => decide (x ≤ 1)) && decide (x ≤ 1)) by rw [take_succ_at hxk]; simp)
                    clear hxc hx6 huc hxk
                    cases hB1 : ((usesL ss).take k).all (fun x => decide (x ≤ 1))
                    · have HB1 := Lib.hid hB1
                      clear hB1
                      go_wp2
                      exact ⟨⟨k + 1, by go_num, hlt, by rw [HT6.out, HB1.out]; rfl⟩, by simp [intOf]; omega⟩
                    · have HB1 := Lib.hid hB1
                      clear hB1
                      go_wp2
                      exact ⟨⟨k + 1, by go_num, hlt, by rw [HT6.out, HB1.out]; simp⟩, by simp [intOf]; omega⟩
                  · have hall : ((usesL ss).take k).all (fun x => decide (x ≤ 1)) = TB := by rw [List.take_of_length_le (by rw [usesL_len]; omega)]; exact HTB.out
                    rw [hall]
                    clear hall
                    cases TB
                    all_goals
                      as_aux_lemma =>
                        go_wp2
                        go_ret
                        exact ⟨rfl, hE2.trans (hE2B.trans hE13)⟩
        · as_aux_lemma =>
            have HUN := Lib.hid hun
            have hl200 : (unfOf ss).length ≤ 200 := by unfold unfB at hun; simp only [Bool.and_eq_true, decide_eq_true_eq] at hun; exact hun.2
            obtain ⟨hq1, hqpos, hq3⟩ := takes_unf ht hl200
            have hq4 := tree_unf ht hl200
            have hq5 := reg_same ht hl200
            have hq6 := last_depth ht hl200
            have hq7 := last_leaves ht htl
            obtain ⟨Q, hQ⟩ : ∃ Q, unfOf ss = Q := ⟨_, rfl⟩
            rw [hQ] at hl200 hq1 hqpos hq3 hq4 hq5 hq6 hq7
            have HQE := Lib.hid hQ
            have HTQ := Lib.hid hq1
            have HCL := Lib.hid hq3
            have HTR := Lib.hid hq4
            have HRG := Lib.hid hq5
            have HQD := Lib.hid hq6
            have HQA := Lib.hid hq7
            have HAS := Lib.hid (fun (k : Nat) (s : RS) (hs : Q[k]? = some s) => takes_left hq1 hs)
            clear hun ht htl hrk hQ hq1 hq3 hq4 hq5 hq6 hq7
            go_wp2_with (first | ((go_at_call 7; refine (UnfoldProof_any _ _ f ss _ ⟨_, rfl, hlB.ext (by repeat (first | exact Ext.refl _ | assumption | apply Ext.dn | apply Ext.drew | apply Ext.alloc))⟩ (hsB.ext (by repeat (first | exact Ext.refl _ | assumption | apply Ext.dn | apply Ext.drew | apply Ext.alloc)))).mono ?_; rw [HUN.out]; rintro e w3 ⟨r3, rfl, hs3, he3⟩; have hE3 : Ext wB w3 := Ext.trans (by repeat (first | exact Ext.refl _ | assumption | apply Ext.dn | apply Ext.drew | apply Ext.alloc)) he3; obtain ⟨_, _⟩ := (hB.ext hE3).cells); change Steps _ _ (unfOf ss) at hs3; rw [HQE.out] at hs3; obtain ⟨qb, qc, rfl, hqc1, hqc2, _⟩ := hs3.open) | ((go_at_call 8; refine (sUnfoldProof_any _ _ f ss _ ⟨_, rfl, hlB.ext (by repeat (first | exact Ext.refl _ | assumption | apply Ext.dn | apply Ext.drew | apply Ext.alloc))⟩ (hsB.ext (by repeat (first | exact Ext.refl _ | assumption | apply Ext.dn | apply Ext.drew | apply Ext.alloc)))).mono ?_; rw [HUN.out]; rintro e w4 ⟨r4, rfl, hs4, he4⟩; have hE4 : Ext wB w4 := Ext.trans (by repeat (first | exact Ext.refl _ | assumption | apply Ext.dn | apply Ext.drew | apply Ext.alloc)) he4; obtain ⟨_, _⟩ := (hB.ext hE4).cells; have hs3' := hs3.ext (Ext.trans (by repeat (first | exact Ext.refl _ | assumption | apply Ext.dn | apply Ext.drew | apply Ext.alloc)) he4)); change Steps _ _ (unfOf ss) at hs4; rw [HQE.out] at hs4) | (go_at_call 9; refine (rSteps_same _ _ _ _ (hs3'.ext (by repeat (first | exact Ext.refl _ | assumption | apply Ext.dn | apply Ext.drew | apply Ext.alloc))) (hs4.ext (by repeat (first | exact Ext.refl _ | assumption | apply Ext.dn | apply Ext.drew | apply Ext.alloc)))).mono ?_; rintro e w5 ⟨rfl, he5⟩; have hE5 : Ext wB w5 := Ext.trans (by repeat (first | exact Ext.refl _ | assumption | apply Ext.dn | apply Ext.drew | apply Ext.alloc)) he5; obtain ⟨_, _⟩ := (hB.ext hE5).cells; have hs3'' := hs3'.ext (Ext.trans (by repeat (first | exact Ext.refl _ | assumption | apply Ext.dn | apply Ext.drew | apply Ext.alloc)) he5)) | ((go_at_call 10; refine (StepDepths_any _ _ f ss _ ⟨_, rfl, hlB.ext (by repeat (first | exact Ext.refl _ | assumption | apply Ext.dn | apply Ext.drew | apply Ext.alloc))⟩ (hsB.ext (by repeat (first | exact Ext.refl _ | assumption | apply Ext.dn | apply Ext.drew | apply Ext.alloc)))).mono ?_; rw [HT.out]; rintro e w6 ⟨r6, rfl, hi6, he6⟩; have hE6 : Ext wB w6 := Ext.trans (by repeat (first | exact Ext.refl _ | assumption | apply Ext.dn | apply Ext.drew | apply Ext.alloc)) he6; obtain ⟨_, _⟩ := (hB.ext hE6).cells; have hs36 := hs3''.ext (Ext.trans (by repeat (first | exact Ext.refl _ | assumption | apply Ext.dn | apply Ext.drew | apply Ext.alloc)) he6)); change Ints _ _ (depL ss) at hi6; obtain ⟨db, dc, rfl, hdc1, hdc2⟩ := hi6.openN (depL_len ss)) | ((go_at_call 11; refine (sStepDepths_any _ _ f ss _ ⟨_, rfl, hlB.ext (by repeat (first | exact Ext.refl _ | assumption | apply Ext.dn | apply Ext.drew | apply Ext.alloc))⟩ (hsB.ext (by repeat (first | exact Ext.refl _ | assumption | apply Ext.dn | apply Ext.drew | apply Ext.alloc)))).mono ?_; rw [HT.out]; rintro e w7 ⟨r7, rfl, hi7, he7⟩; have hE7 : Ext wB w7 := Ext.trans (by repeat (first | exact Ext.refl _ | assumption | apply Ext.dn | apply Ext.drew | apply Ext.alloc)) he7; obtain ⟨_, _⟩ := (hB.ext hE7).cells; have hi67 := hi6.ext (Ext.trans (by repeat (first | exact Ext.refl _ | assumption | apply Ext.dn | apply Ext.drew | apply Ext.alloc)) he7); have hs37 := hs36.ext (Ext.trans (by repeat (first | exact Ext.refl _ | assumption | apply Ext.dn | apply Ext.drew | apply Ext.alloc)) he7)); change Ints _ _ (depL ss) at hi7) | (go_at_call 12; refine (rInts_any _ _ _ _ _ (hi9a.ext (by repeat (first | exact Ext.refl _ | assumption | apply Ext.dn | apply Ext.drew | apply Ext.alloc))) (hi10.ext (by repeat (first | exact Ext.refl _ | assumption | apply Ext.dn | apply Ext.drew | apply Ext.alloc)))).mono ?_; rw [eqB_self]; rintro e w11 ⟨rfl, hd11⟩; have he11 := hd11.ext; have hE11 : Ext wB w11 := Ext.trans (by repeat (first | exact Ext.refl _ | assumption | apply Ext.dn | apply Ext.drew | apply Ext.alloc)) he11; obtain ⟨_, _⟩ := (hB.ext hE11).cells; have hi9b := hi9a.ext (Ext.trans (by repeat (first | exact Ext.refl _ | assumption | apply Ext.dn | apply Ext.drew | apply Ext.alloc)) he11); have hi6b := hi6a.ext (Ext.trans (by repeat (first | exact Ext.refl _ | assumption | apply Ext.dn | apply Ext.drew | apply Ext.alloc)) he11); have hs3b := hs3a.ext (Ext.trans (by repeat (first | exact Ext.refl _ | assumption | apply Ext.dn | apply Ext.drew | apply Ext.alloc)) he11)) | (go_at_call 12; refine (rInts_any _ _ _ _ _ (hi67.ext (by repeat (first | exact Ext.refl _ | assumption | apply Ext.dn | apply Ext.drew | apply Ext.alloc))) (hi7.ext (by repeat (first | exact Ext.refl _ | assumption | apply Ext.dn | apply Ext.drew | apply Ext.alloc)))).mono ?_; rw [eqB_self]; rintro e w8 ⟨rfl, hd8⟩; have he8 := hd8.ext; have hE8 : Ext wB w8 := Ext.trans (by repeat (first | exact Ext.refl _ | assumption | apply Ext.dn | apply Ext.drew | apply Ext.alloc)) he8; obtain ⟨_, _⟩ := (hB.ext hE8).cells; have hi68 := hi67.ext (Ext.trans (by repeat (first | exact Ext.refl _ | assumption | apply Ext.dn | apply Ext.drew | apply Ext.alloc)) he8); have hs38 := hs37.ext (Ext.trans (by repeat (first | exact Ext.refl _ | assumption | apply Ext.dn | apply Ext.drew | apply Ext.alloc)) he8)) | ((go_at_call 13; refine (StepLeaves_any _ _ f ss _ ⟨_, rfl, hlB.ext (by repeat (first | exact Ext.refl _ | assumption | apply Ext.dn | apply Ext.drew | apply Ext.alloc))⟩ (hsB.ext (by repeat (first | exact Ext.refl _ | assumption | apply Ext.dn | apply Ext.drew | apply Ext.alloc)))).mono ?_; rw [HTL.out]; rintro e w9 ⟨r9, rfl, hi9, he9⟩; have hE9 : Ext wB w9 := Ext.trans (by repeat (first | exact Ext.refl _ | assumption | apply Ext.dn | apply Ext.drew | apply Ext.alloc)) he9; obtain ⟨_, _⟩ := (hB.ext hE9).cells; have hi69 := hi68.ext (Ext.trans (by repeat (first | exact Ext.refl _ | assumption | apply Ext.dn | apply Ext.drew | apply Ext.alloc)) he9); have hs39 := hs38.ext (Ext.trans (by repeat (first | exact Ext.refl _ | assumption | apply Ext.dn | apply Ext.drew | apply Ext.alloc)) he9)); change Ints _ _ (sumL axN 1000000 ss) at hi9; obtain ⟨eb, ec, rfl, hec1, hec2⟩ := hi9.openN (sumL_len _ _ ss)) | ((go_at_call 14; refine (sStepLeaves_any _ _ f ss _ ⟨_, rfl, hlB.ext (by repeat (first | exact Ext.refl _ | assumption | apply Ext.dn | apply Ext.drew | apply Ext.alloc))⟩ (hsB.ext (by repeat (first | exact Ext.refl _ | assumption | apply Ext.dn | apply Ext.drew | apply Ext.alloc)))).mono ?_; rw [HTL.out]; rintro e w10 ⟨r10, rfl, hi10, he10⟩; have hE10 : Ext wB w10 := Ext.trans (by repeat (first | exact Ext.refl _ | assumption | apply Ext.dn | apply Ext.drew | apply Ext.alloc)) he10; obtain ⟨_, _⟩ := (hB.ext hE10).cells; have hi9a := hi9.ext (Ext.trans (by repeat (first | exact Ext.refl _ | assumption | apply Ext.dn | apply Ext.drew | apply Ext.alloc)) he10); have hi6a := hi69.ext (Ext.trans (by repeat (first | exact Ext.refl _ | assumption | apply Ext.dn | apply Ext.drew | apply Ext.alloc)) he10); have hs3a := hs39.ext (Ext.trans (by repeat (first | exact Ext.refl _ | assumption | apply Ext.dn | apply Ext.drew | apply Ext.alloc)) he10)); change Ints _ _ (sumL axN 1000000 ss) at hi10))
            obtain ⟨d1, d2, rfl, _, hdl⟩ := hi6b.lastAt hpos
            obtain ⟨e1, e2, rfl, _, hel⟩ := hi9b.lastAt hpos
            have hdl1 := hdl
            have hel1 := hel
            have hdl0 := hdl _ (.refl _)
            have hel0 := hel _ (.refl _)
            have hbD := hbd.out
            have hDD := hD0.out
            rw [show ((ss.length - 1 : Nat) : Int) = (ss.length : Int) - 1 by omega] at hDD
            obtain ⟨DD, hDe⟩ : ∃ DD : Nat, getI (depL ss) ((ss.length : Int) - 1) = (DD : Int) := ⟨_, hDD⟩
            obtain ⟨LL, hLe⟩ : ∃ LL : Int, getI (sumL axN 1000000 ss) ((ss.length : Int) - 1) = LL := ⟨_, rfl⟩
            rw [hDe, hLe, Int.toNat_natCast] at hbD
            rw [hDe] at hdl0
            rw [hLe] at hel0
            have HDL := Lib.hid (show ∀ w', Ext w11 w' → w'.cell? ⟨d1, d2 + (ss.length - 1), none⟩ = some (.int .i64 DD) from fun w' h => by rw [hdl1 w' h, hDe])
            have HEL := Lib.hid (show ∀ w', Ext w11 w' → w'.cell? ⟨e1, e2 + (ss.length - 1), none⟩ = some (.int .i64 LL) from fun w' h => by rw [hel1 w' h, hLe])
            have HQD2 := Lib.hid (HQD.out.trans hDe)
            have HQA2 := Lib.hid (HQA.out.trans hLe)
            clear hdl1 hel1
            clear hdl hel hDD hDe hLe
            have hl0 : (0 : Int) ≤ (ss.length : Int) - 1 := by omega
            have hl1 : (ss.length : Int) - 1 < ss.length := by omega
            have hsh := fun h => shl_ok hbD h
            have HSH := Lib.hid hsh
            clear hsh hbD
            by_cases h40 : (DD : Int) < 40
            all_goals
              as_aux_lemma =>
                first | (have hsh2 := HSH.out h40; have hsh3 := Int.not_lt.2 hsh2; have hsh4 := decide_eq_false hsh3) | skip
                go_quiet (fail)
                go_wp2_with (first | ((go_at_call 15; refine (StepUses_any _ _ f ss _ ⟨_, rfl, hlB.ext (Ext.trans hE11 (by repeat (first | exact Ext.refl _ | assumption | apply Ext.dn | apply Ext.drew | apply Ext.alloc)))⟩ (hsB.ext (Ext.trans hE11 (by repeat (first | exact Ext.refl _ | assumption | apply Ext.dn | apply Ext.drew | apply Ext.alloc))))).mono ?_; rw [HT.out]; rintro e w12 ⟨r12, rfl, hi12, he12⟩; change Ints _ _ (usesL ss) at hi12; have hE12 : Ext wB w12 := Ext.trans (Ext.trans hE11 (by repeat (first | exact Ext.refl _ | assumption | apply Ext.dn | apply Ext.drew | apply Ext.alloc))) he12; obtain ⟨_, _⟩ := (hB.ext hE12).cells; obtain ⟨ub, uc, rfl, huc1, huc2⟩ := hi12.openN (usesL_len ss)); have hq12 := hs3b.ext (Ext.trans (by repeat (first | exact Ext.refl _ | assumption | apply Ext.dn | apply Ext.drew | apply Ext.alloc)) he12)) | ((go_at_call 16; refine (IsTreeLike_any _ _ f ss _ ⟨_, rfl, hlB.ext (Ext.trans hE12 (by repeat (first | exact Ext.refl _ | assumption | apply Ext.dn | apply Ext.drew | apply Ext.alloc)))⟩ (hsB.ext (Ext.trans hE12 (by repeat (first | exact Ext.refl _ | assumption | apply Ext.dn | apply Ext.drew | apply Ext.alloc))))).mono ?_; rw [HT.out, Bool.true_and]; rintro e w13 ⟨rfl, he13⟩; have hE13 : Ext wB w13 := Ext.trans (Ext.trans hE12 (by repeat (first | exact Ext.refl _ | assumption | apply Ext.dn | apply Ext.drew | apply Ext.alloc))) he13; obtain ⟨_, _⟩ := (hB.ext hE13).cells); have hq13 := hq12.ext (Ext.trans (by repeat (first | exact Ext.refl _ | assumption | apply Ext.dn | apply Ext.drew | apply Ext.alloc)) he13)))
                obtain ⟨TB, hTB⟩ : ∃ TB, treeB ss = TB := ⟨_, rfl⟩
                have HTB := Lib.hid (show (usesL ss).all (fun x => decide (x ≤ 1)) = TB by rw [← hTB]; exact tree_all ss hpos)
                rw [hTB]
                clear hTB
                have hi13 := hi12.ext (Ext.trans (by repeat (first | exact Ext.refl _ | assumption | apply Ext.dn | apply Ext.drew | apply Ext.alloc)) he13)
                go_loop [22, 23] (fun o i => ∃ k : Nat, i = .int .i64 k ∧ k ≤ ss.length ∧ o = .bool (((usesL ss).take k).all (fun x => decide (x ≤ 1)))) (fun _ i => ss.length - (intOf i).toNat)
                case atStart => exact ⟨0, rfl, Nat.zero_le _, by simp⟩
                case round =>
                  obtain ⟨k, rfl, hk, rfl⟩ := hrel
                  by_cases hlt : k < ss.length
                  · obtain ⟨_, _, eU, _, _, huc⟩ := hi13.open
                    injection eU with eU1 _ eU3
                    subst eU1; subst eU3
                    obtain ⟨b6, o6, rfl, _, hx6⟩ := huc k (by rw [usesL_len]; exact hlt)
                    obtain ⟨x, hxk, hxc⟩ := hx6 k (by rw [usesL_len]; exact hlt)
                    have hx0 := hxc _ (.refl _)
                    have HT6 := Lib.hid (show ((usesL ss).take (k + 1)).all (fun x => decide (x ≤ 1)) = (((usesL ss).take k).all (fun x => decide (x ≤ 1)) && decide (x ≤ 1)) by rw [take_succ_at hxk]; simp)
                    clear hxc hx6 huc hxk
                    cases hB1 : ((usesL ss).take k).all (fun x => decide (x ≤ 1))
                    · have HB1 := Lib.hid hB1
                      clear hB1
                      go_wp2
                      exact ⟨⟨k + 1, by go_num, hlt, by rw [HT6.out, HB1.out]; rfl⟩, by simp [intOf]; omega⟩
                    · have HB1 := Lib.hid hB1
                      clear hB1
                      go_wp2
                      exact ⟨⟨k + 1, by go_num, hlt, by rw [HT6.out, HB1.out]; simp⟩, by simp [intOf]; omega⟩
                  · have hall : ((usesL ss).take k).all (fun x => decide (x ≤ 1)) = TB := by rw [List.take_of_length_le (by rw [usesL_len]; omega)]; exact HTB.out
                    rw [hall]
                    clear hall
                    cases TB
                    all_goals
                      as_aux_lemma =>
                        go_wp2_with (first
                          | (go_at_call 16; refine (IsTreeLike_any _ _ f Q _ ⟨_, rfl, hlB.ext (Ext.trans hE13 (by repeat (first | exact Ext.refl _ | assumption | apply Ext.dn | apply Ext.drew | apply Ext.alloc)))⟩ (hq13.ext (by repeat (first | exact Ext.refl _ | assumption | apply Ext.dn | apply Ext.drew | apply Ext.alloc)))).mono ?_; rw [HTQ.out, HTR.out]; rintro e w14 ⟨rfl, he14⟩; have hE14 : Ext wB w14 := Ext.trans (Ext.trans hE13 (by repeat (first | exact Ext.refl _ | assumption | apply Ext.dn | apply Ext.drew | apply Ext.alloc))) he14; obtain ⟨_, _⟩ := (hB.ext hE14).cells; have hq14 := hq13.ext (Ext.trans (by repeat (first | exact Ext.refl _ | assumption | apply Ext.dn | apply Ext.drew | apply Ext.alloc)) he14))
                          | (go_at_call 10; refine (StepDepths_any _ _ f Q _ ⟨_, rfl, hlB.ext (Ext.trans hE14 (by repeat (first | exact Ext.refl _ | assumption | apply Ext.dn | apply Ext.drew | apply Ext.alloc)))⟩ (hq14.ext (by repeat (first | exact Ext.refl _ | assumption | apply Ext.dn | apply Ext.drew | apply Ext.alloc)))).mono ?_; rw [HTQ.out]; rintro e w15 ⟨r15, rfl, hi15, he15⟩; change Ints _ _ (depL Q) at hi15; have hE15 : Ext wB w15 := Ext.trans (Ext.trans hE14 (by repeat (first | exact Ext.refl _ | assumption | apply Ext.dn | apply Ext.drew | apply Ext.alloc))) he15; obtain ⟨_, _⟩ := (hB.ext hE15).cells; have hq15 := hq14.ext (Ext.trans (by repeat (first | exact Ext.refl _ | assumption | apply Ext.dn | apply Ext.drew | apply Ext.alloc)) he15); obtain ⟨vb, vc, rfl, hvc1, hvc2⟩ := hi15.openN (depL_len Q)))
                        go_loop [28, 29] (fun a i => ∃ k : Nat, i = .int .i64 k ∧ k ≤ Q.length ∧ a = .int .i64 (axs (Q.take k))) (fun _ i => Q.length - (intOf i).toNat)
                        case atStart => exact ⟨0, rfl, Nat.zero_le _, rfl⟩
                        case round =>
                          obtain ⟨k, rfl, hk, rfl⟩ := hrel
                          by_cases hltq : k < Q.length
                          · obtain ⟨_, _, eS, _, _, hsc⟩ := hq15.open
                            injection eS with eS1 _ eS3
                            subst eS1; subst eS3
                            obtain ⟨b7, o7, rfl, _, hst7⟩ := hsc k hltq
                            obtain ⟨t, ut, htk, hct⟩ := hst7 k hltq
                            obtain ⟨_, t1, _, _, _⟩ := hct _ (.refl _)
                            have HTK := Lib.hid (show Q.take (k + 1) = Q.take k ++ [t] from take_succ_at htk)
                            have hlr := HAS.out k t htk
                            clear hct htk hst7 hsc
                            rcases hlr with hlr | hlr
                            · have hle : (t.left == -1) = true := by simpa using hlr
                              have HAX := Lib.hid (show axs (Q.take (k + 1)) = axs (Q.take k) + 1 by rw [HTK.out, axs_snoc]; simp [axB, hlr])
                              have hb1 : 0 ≤ axs (Q.take k) ∧ axs (Q.take k) ≤ 200 := by
                                have := List.length_filter_le axB (Q.take k)
                                have h2 : (Q.take k).length ≤ k := List.length_take_le _ _
                                unfold axs
                                omega
                              have hb2 := hb1.1
                              have hb3 := hb1.2
                              clear hlr hb1
                              go_wp2
                              exact ⟨⟨k + 1, by go_num, hltq, by rw [HAX.out]⟩, by simp [intOf]; omega⟩
                            · have hle : (t.left == -1) = false := by simp; omega
                              have HAX := Lib.hid (show axs (Q.take (k + 1)) = axs (Q.take k) by rw [HTK.out, axs_snoc, axB_no hlr]; simp)
                              clear hlr
                              go_wp2
                              exact ⟨⟨k + 1, by go_num, hltq, by rw [HAX.out]⟩, by simp [intOf]; omega⟩
                          · have hax : axs (Q.take k) = LL := by rw [List.take_of_length_le (by omega)]; exact HQA2.out
                            rw [hax]
                            clear hax
                            have hdl0 := HDL.out w15 (Ext.trans (Ext.trans (Ext.trans (Ext.trans (by repeat (first | exact Ext.refl _ | assumption | apply Ext.dn | apply Ext.drew | apply Ext.alloc)) he12) (Ext.trans (by repeat (first | exact Ext.refl _ | assumption | apply Ext.dn | apply Ext.drew | apply Ext.alloc)) he13)) (Ext.trans (by repeat (first | exact Ext.refl _ | assumption | apply Ext.dn | apply Ext.drew | apply Ext.alloc)) he14)) (Ext.trans (by repeat (first | exact Ext.refl _ | assumption | apply Ext.dn | apply Ext.drew | apply Ext.alloc)) he15))
                            have hel0 := HEL.out w15 (Ext.trans (Ext.trans (Ext.trans (Ext.trans (by repeat (first | exact Ext.refl _ | assumption | apply Ext.dn | apply Ext.drew | apply Ext.alloc)) he12) (Ext.trans (by repeat (first | exact Ext.refl _ | assumption | apply Ext.dn | apply Ext.drew | apply Ext.alloc)) he13)) (Ext.trans (by repeat (first | exact Ext.refl _ | assumption | apply Ext.dn | apply Ext.drew | apply Ext.alloc)) he14)) (Ext.trans (by repeat (first | exact Ext.refl _ | assumption | apply Ext.dn | apply Ext.drew | apply Ext.alloc)) he15))
                            obtain ⟨v1, v2, rfl, _, hvl⟩ := hi15.lastAt hqpos
                            have hvl0 := hvl _ (.refl _)
                            rw [HQD2.out] at hvl0
                            obtain ⟨_, _, eS, _, _, hsc⟩ := hq15.open
                            injection eS with eS1 _ eS3
                            subst eS1; subst eS3
                            obtain ⟨b7, o7, rfl, _, hst7⟩ := hsc (Q.length - 1) (by omega)
                            obtain ⟨t, ut, htk, hct⟩ := hst7 (Q.length - 1) (by omega)
                            obtain ⟨t0, _, _, _, tI⟩ := hct _ (.refl _)
                            obtain ⟨_, _, eP, _, _, hsp⟩ := (hsB.ext hE15).open
                            injection eP with eP1 _ eP3
                            subst eP1; subst eP3
                            obtain ⟨b8, o8, rfl, _, hst8⟩ := hsp (ss.length - 1) (by omega)
                            obtain ⟨p8, up, hpk, hcp⟩ := hst8 (ss.length - 1) (by omega)
                            obtain ⟨p0, _, _, _, pI⟩ := hcp _ (.refl _)
                            have hcl := HCL.out
                            rw [clAt_of (s := t) (by rw [show ((Q.length : Int) - 1).toNat = Q.length - 1 by omega]; exact htk), clAt_of (s := p8) (by rw [show ((ss.length : Int) - 1).toNat = ss.length - 1 by omega]; exact hpk)] at hcl
                            obtain ⟨CC, hCC⟩ : ∃ CC, p8.clause = CC := ⟨_, rfl⟩
                            rw [hcl, hCC] at tI
                            rw [hCC] at pI
                            have HTI := Lib.hid (fun (w' : World) (h : Ext w15 w') => tI.ext h)
                            have HPI := Lib.hid (fun (w' : World) (h : Ext w15 w') => pI.ext h)
                            obtain ⟨tb, tc, rfl, _, _, _⟩ := tI.open
                            obtain ⟨pb, pc, rfl, _, _, _⟩ := pI.open
                            clear hcl hCC hct htk hst7 hsc hcp hpk hst8 hsp hvl
                            have hq0' : (0 : Int) ≤ (Q.length : Int) - 1 := by omega
                            have hq1' : (Q.length : Int) - 1 < Q.length := by omega
                            have hq2' : ((Q.length : Int) == 0) = false := by simp; intro e; rw [e] at hqpos; simp at hqpos
                            have hp1' : (ss.length : Int) - 1 < ss.length := by omega
                            go_wp2_with fail
                            go_quiet (first | (go_at_call 12; exact Calls.quiet_of (quiet_b (rInts_any _ _ CC CC _ (HTI.out _ (by repeat (first | exact Ext.refl _ | assumption | apply Ext.dn | apply Ext.drew | apply Ext.alloc))) (HPI.out _ (by repeat (first | exact Ext.refl _ | assumption | apply Ext.dn | apply Ext.drew | apply Ext.alloc)))) (eqB_self CC))))
                            go_wp2_with (first
                              | (go_at_call 17; refine (IsRegularProof_any _ _ f Q _ ⟨_, rfl, hlB.ext (Ext.trans hE16 (by repeat (first | exact Ext.refl _ | assumption | apply Ext.dn | apply Ext.drew | apply Ext.alloc)))⟩ (hq16.ext (by repeat (first | exact Ext.refl _ | assumption | apply Ext.dn | apply Ext.drew | apply Ext.alloc)))).mono ?_; rw [HTQ.out, HRG.out, Bool.true_and]; rintro e w17 ⟨rfl, he17⟩; have hE17 : Ext wB w17 := Ext.trans (Ext.trans hE16 (by repeat (first | exact Ext.refl _ | assumption | apply Ext.dn | apply Ext.drew | apply Ext.alloc))) he17)
                              | (go_at_call 17; refine (IsRegularProof_any _ _ f ss _ ⟨_, rfl, hlB.ext (Ext.trans hE15 (by repeat (first | exact Ext.refl _ | assumption | apply Ext.dn | apply Ext.drew | apply Ext.alloc)))⟩ (hsB.ext (Ext.trans hE15 (by repeat (first | exact Ext.refl _ | assumption | apply Ext.dn | apply Ext.drew | apply Ext.alloc))))).mono ?_; rw [HT.out, Bool.true_and]; rintro e w16 ⟨rfl, he16⟩; have hE16 : Ext wB w16 := Ext.trans (Ext.trans hE15 (by repeat (first | exact Ext.refl _ | assumption | apply Ext.dn | apply Ext.drew | apply Ext.alloc))) he16; obtain ⟨_, _⟩ := (hB.ext hE16).cells; have hq16 := hq15.ext (Ext.trans (by repeat (first | exact Ext.refl _ | assumption | apply Ext.dn | apply Ext.drew | apply Ext.alloc)) he16)))
                            go_ret
                            exact ⟨rfl, hE2.trans (hE2B.trans hE17)⟩
end Go.Proofs.YtfnjhodologfeaaGreat
