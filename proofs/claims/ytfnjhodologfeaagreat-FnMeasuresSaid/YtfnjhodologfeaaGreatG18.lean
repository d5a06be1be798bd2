/- Parts of the proof: C18. firstIrregular, given neededSteps: the walk -/
import Derived.Test.YtfnjhodologfeaaGreatG17
set_option linter.unusedSimpArgs false
set_option linter.unusedVariables false
/- firstIrregular, given neededSteps: the walk -/
namespace Go.Proofs.YtfnjhodologfeaaGreat
open Go.RowKit

/-- the first irregular step among those that are needed, or -1 -/
def firstB (ss : List RS) : Int := match (needL ss).find? (irrB ss) with | some x => x | none => -1
theorem find_at {p : Int → Bool} : ∀ {L : List Int} {k : Nat} {x : Int}, (L.take k).all (fun i => !p i) = true → L[k]? = some x → p x = true → L.find? p = some x
  | [], k, x, _, h, _ => by simp at h
  | a :: L, 0, x, _, h, hp => by simp at h; subst h; simp [hp]
  | a :: L, k + 1, x, ha, h, hp => by
    simp only [List.take_succ_cons, List.all_cons, Bool.and_eq_true, Bool.not_eq_true'] at ha
    rw [List.find?_cons, ha.1]
    exact find_at (by simpa using ha.2) (by simpa using h) hp
theorem find_none {p : Int → Bool} {L : List Int} (h : L.all (fun i => !p i) = true) : L.find? p = none := by
  rw [List.find?_eq_none]
  intro x hx
  have := List.all_eq_true.1 h x hx
  simpa using this
theorem firstB_reg (ss : List RS) : decide (firstB ss < 0) = regB ss := by
  unfold firstB regB
  cases hf : (needL ss).find? (irrB ss) with
  | none =>
    have := List.find?_eq_none.1 hf
    simp only [show ((-1 : Int) < 0) = True by simp, decide_true]
    symm
    rw [List.all_eq_true]
    intro x hx
    simpa using this x hx
  | some x =>
    have hm := List.mem_of_find?_eq_some hf
    have hp := List.find?_some hf
    have hb := needL_bd ss x hm
    have h1 : ¬ x < 0 := by omega
    simp only [h1, decide_false]
    symm
    rw [List.all_eq_false]
    exact ⟨x, hm, by simp [hp]⟩
theorem firstB_some {ss : List RS} (h : regB ss = false) : ∃ s, ss[(firstB ss).toNat]? = some s ∧ irrS (pivTo ss ss.length) s = true ∧ 0 ≤ firstB ss ∧ firstB ss < ss.length := by
  have h1 := firstB_reg ss
  rw [h] at h1
  have h2 : ¬ firstB ss < 0 := by simpa using h1
  unfold firstB at h2 ⊢
  cases hf : (needL ss).find? (irrB ss) with
  | none => rw [hf] at h2; simp at h2
  | some x =>
    have hm := List.mem_of_find?_eq_some hf
    have hp := List.find?_some hf
    have hb := needL_bd ss x hm
    unfold irrB at hp
    split at hp
    · rename_i s hs
      exact ⟨s, hs, hp, hb.1, hb.2⟩
    · cases hp
theorem ret_i {a b : Int} (h : a = b) : Ending.returned (.int .i64 a) = .returned (.int .i64 b) := by rw [h]
set_option maxRecDepth 100000 in
set_option maxHeartbeats 2000000 in
theorem firstIrregular_of (hN : NeededSaid) (vs : Value) (ss : List RS) (w : World) (hs : Steps w vs ss) (hpre : PreOk ss) (hpv : PivOk ss) (hn : ss.length ≤ 100000) :
    Calls Tryz.prog 53 #[vs] w fun e w' => e = .returned (.int .i64 (firstB ss)) ∧ Ext w w' := by
  obtain ⟨base, cap, rfl, hc1, hc2, hcell⟩ := hs.open
  have HN := Lib.hid hN
  have HPR := Lib.hid hpre
  have HPV := Lib.hid hpv
  have HNB := Lib.hid (needL_bd ss)
  have HRB := Lib.hid (show firstB ss = match (needL ss).find? (irrB ss) with | some x => x | none => -1 from rfl)
  have HPL := Lib.hid (pivTo_length ss ss.length)
  clear hN hpre hpv
  go_enter Tryz.func53, Tryz.ntmps53
  go_wp2_with (first | (go_at_call 57; refine (stepPivots_any _ ss _ hs HPR.out HPV.out hn).mono ?_; rintro e w1 ⟨r1, rfl, ho1, he1⟩; obtain ⟨pb, pc, rfl, _, _⟩ := ho1.form) | (go_at_call 74; refine (HN.out _ ss _ (hs.ext he1) HPR.out hn).mono ?_; rintro e w2 ⟨r2, rfl, ho2, he2⟩; obtain ⟨nb, nc, rfl, hnc1, hnc2, hncell⟩ := ho2.ints.open))
  have hE2 := he1.trans he2
  have ho1' := ho1.ext he2
  generalize needL ss = L at HNB HRB ho2 hnc1 hncell ⊢
  go_loopw [12, 31] (fun i s31 wr => True ∧ ∃ k : Nat, k ≤ L.length ∧ i = .int .i64 k ∧ Ext w2 wr ∧ (L.take k).all (fun i => !irrB ss i) = true) (fun i _ _ => L.length - (intOf i).toNat)
  case atStart => exact ⟨trivial, 0, Nat.zero_le _, rfl, .refl _, rfl⟩
  case round =>
    obtain ⟨h31, k, hk, rfl, hE, hall⟩ := hrel
    have HA := Lib.hid hall
    clear hall
    by_cases hlt : k < L.length
    · obtain ⟨gb, go, rfl, _, hri⟩ := hncell k hlt
      obtain ⟨x, hxk, hxc⟩ := hri k hlt
      have hxc' := hxc _ hE
      obtain ⟨hx0, hx1⟩ := HNB.out x (List.mem_of_getElem? hxk)
      obtain ⟨b, off, rfl, hb, hcs⟩ := hcell x.toNat (by omega)
      obtain ⟨s, u, hsk, hci⟩ := hcs x.toNat (by omega)
      have hxr := hE2.trans hE
      obtain ⟨hu0, hu1, hu2, hu3, hcI⟩ := hci wr hxr
      obtain ⟨ub, uc, rfl, _, _, _⟩ := hcI.open
      have hSV : ∀ w', Ext w w' → StepV w' (.agg #[.slice ub s.clause.length uc, .int .i64 s.left, .int .i64 s.right, .int .i64 s.pivot]) s := fun w' h => ⟨_, rfl, (hci _ h).2.2.2.2⟩
      have HI := Lib.hid (show irrB ss x = irrS (pivTo ss ss.length) s by simp [irrB, hsk])
      have HT := Lib.hid (show (L.take (k + 1)).all (fun i => !irrB ss i) = ((L.take k).all (fun i => !irrB ss i) && !irrB ss x) by rw [take_succ_at hxk]; simp)
      have HX := Lib.hid hxk
      have HPk := Lib.hid (HPR.out _ s hsk)
      clear hncell hri hxc hcell hcs hci hsk hxk
      cases hr : resB s
      · have HIF := Lib.hid (show irrB ss x = false by rw [HI.out]; simp [irrS, hr])
        go_wp2
        obtain ⟨c0, c1, c2, c3⟩ := (SBlk.made wr (.slice ub s.clause.length uc) s.left s.right s.pivot).cells
        refine wp_region_held_drew (S := (fun W => W.cell? ⟨wr.heap.size, 0, none⟩ = some (.slice ub s.clause.length uc) ∧ W.cell? ⟨wr.heap.size, 1, none⟩ = some (.int .i64 s.left) ∧ W.cell? ⟨wr.heap.size, 2, none⟩ = some (.int .i64 s.right) ∧ W.cell? ⟨wr.heap.size, 3, none⟩ = some (.int .i64 s.pivot))) (by kernel_rfl) ⟨by go_simp, by go_simp, by go_simp, by go_simp⟩ (fun hS => ?_)
        refine wpAnyH_ready (rs := [0]) (by kernel_rfl) (by simp) ?_
        refine AllReadyH.cons rfl (fun K hK => ?_) AllReadyH.nil
        go_simp
        refine hK.out _ _ hS (fun _ => ?_)
        clear hK K
        (try simp only [Act.put, List.getElem_toArray, List.getElem_cons_succ, List.getElem_cons_zero, List.setIfInBounds_toArray, List.set_cons_zero, List.set_cons_succ])
        refine wpAnyH_ready (rs := [1]) (by kernel_rfl) (by simp) ?_
        refine AllReadyH.cons rfl (fun K hK => ?_) AllReadyH.nil
        go_simp
        go_at_call 58
        refine (isResolvent_any _ s _ (hSV _ (Ext.trans hxr (by repeat (first | exact Ext.refl _ | assumption | apply Ext.dn | apply Ext.drew | apply Ext.alloc))))).mono ?_
        rw [hr]
        rintro e w3 ⟨rfl, he3⟩
        refine hK.out _ _ ⟨Ext.cell he3 hS.1, Ext.cell he3 hS.2.1, Ext.cell he3 hS.2.2.1, Ext.cell he3 hS.2.2.2⟩ (fun hS => ?_)
        clear hK K
        (try simp only [Act.put, List.getElem_toArray, List.getElem_cons_succ, List.getElem_cons_zero, List.setIfInBounds_toArray, List.set_cons_zero, List.set_cons_succ])
        refine wpAnyH_take (i := 2) (v := .bool false) rfl (by kernel_rfl) (by kernel_rfl) (by kernel_rfl) (fun _ _ _ h => h) (Or.inl ⟨by rfl, fun W hW => by (try dsimp only at hW); go_simp⟩) hS ?_
        (try simp only [Act.put, List.getElem_toArray, List.getElem_cons_succ, List.getElem_cons_zero, List.setIfInBounds_toArray, List.set_cons_zero, List.set_cons_succ])
        refine wpAnyH_take (i := 3) (v := undef) rfl (by kernel_rfl) (by kernel_rfl) (by kernel_rfl) (fun _ _ _ h => h) (Or.inr ⟨by rfl, rfl⟩) hS ?_
        (try simp only [Act.put, List.getElem_toArray, List.getElem_cons_succ, List.getElem_cons_zero, List.setIfInBounds_toArray, List.set_cons_zero, List.set_cons_succ])
        refine wpAnyH_take (i := 4) (v := undef) rfl (by kernel_rfl) (by kernel_rfl) (by kernel_rfl) (fun _ _ _ h => h) (Or.inr ⟨by rfl, rfl⟩) hS ?_
        (try simp only [Act.put, List.getElem_toArray, List.getElem_cons_succ, List.getElem_cons_zero, List.setIfInBounds_toArray, List.set_cons_zero, List.set_cons_succ])
        refine wpAnyH_take (i := 5) (v := undef) rfl (by kernel_rfl) (by kernel_rfl) (by kernel_rfl) (fun _ _ _ h => h) (Or.inr ⟨by rfl, rfl⟩) hS ?_
        (try simp only [Act.put, List.getElem_toArray, List.getElem_cons_succ, List.getElem_cons_zero, List.setIfInBounds_toArray, List.set_cons_zero, List.set_cons_succ])
        refine wpAnyH_take (i := 6) (v := undef) rfl (by kernel_rfl) (by kernel_rfl) (by kernel_rfl) (fun _ _ _ h => h) (Or.inr ⟨by rfl, rfl⟩) hS ?_
        (try simp only [Act.put, List.getElem_toArray, List.getElem_cons_succ, List.getElem_cons_zero, List.setIfInBounds_toArray, List.set_cons_zero, List.set_cons_succ])
        refine wpAnyH_take (i := 7) (v := undef) rfl (by kernel_rfl) (by kernel_rfl) (by kernel_rfl) (fun _ _ _ h => h) (Or.inr ⟨by rfl, rfl⟩) hS ?_
        (try simp only [Act.put, List.getElem_toArray, List.getElem_cons_succ, List.getElem_cons_zero, List.setIfInBounds_toArray, List.set_cons_zero, List.set_cons_succ])
        refine wpAnyH_take (i := 8) (v := undef) rfl (by kernel_rfl) (by kernel_rfl) (by kernel_rfl) (fun _ _ _ h => h) (Or.inr ⟨by rfl, rfl⟩) hS ?_
        (try simp only [Act.put, List.getElem_toArray, List.getElem_cons_succ, List.getElem_cons_zero, List.setIfInBounds_toArray, List.set_cons_zero, List.set_cons_succ])
        refine wpAnyH_take (i := 9) (v := undef) rfl (by kernel_rfl) (by kernel_rfl) (by kernel_rfl) (fun _ _ _ h => h) (Or.inr ⟨by rfl, rfl⟩) hS ?_
        (try simp only [Act.put, List.getElem_toArray, List.getElem_cons_succ, List.getElem_cons_zero, List.setIfInBounds_toArray, List.set_cons_zero, List.set_cons_succ])
        refine wpAnyH_take (i := 10) (v := undef) rfl (by kernel_rfl) (by kernel_rfl) (by kernel_rfl) (fun _ _ _ h => h) (Or.inr ⟨by rfl, rfl⟩) hS ?_
        (try simp only [Act.put, List.getElem_toArray, List.getElem_cons_succ, List.getElem_cons_zero, List.setIfInBounds_toArray, List.set_cons_zero, List.set_cons_succ])
        refine wpAnyH_take (i := 11) (v := undef) rfl (by kernel_rfl) (by kernel_rfl) (by kernel_rfl) (fun _ _ _ h => h) (Or.inr ⟨by rfl, rfl⟩) hS ?_
        (try simp only [Act.put, List.getElem_toArray, List.getElem_cons_succ, List.getElem_cons_zero, List.setIfInBounds_toArray, List.set_cons_zero, List.set_cons_succ])
        refine wpAnyH_take (i := 12) (v := undef) rfl (by kernel_rfl) (by kernel_rfl) (by kernel_rfl) (fun _ _ _ h => h) (Or.inr ⟨by rfl, rfl⟩) hS ?_
        (try simp only [Act.put, List.getElem_toArray, List.getElem_cons_succ, List.getElem_cons_zero, List.setIfInBounds_toArray, List.set_cons_zero, List.set_cons_succ])
        refine wpAnyH_take (i := 13) (v := undef) rfl (by kernel_rfl) (by kernel_rfl) (by kernel_rfl) (fun _ _ _ h => h) (Or.inr ⟨by rfl, rfl⟩) hS ?_
        (try simp only [Act.put, List.getElem_toArray, List.getElem_cons_succ, List.getElem_cons_zero, List.setIfInBounds_toArray, List.set_cons_zero, List.set_cons_succ])
        refine wpAnyH_take (i := 14) (v := undef) rfl (by kernel_rfl) (by kernel_rfl) (by kernel_rfl) (fun _ _ _ h => h) (Or.inr ⟨by rfl, rfl⟩) hS ?_
        (try simp only [Act.put, List.getElem_toArray, List.getElem_cons_succ, List.getElem_cons_zero, List.setIfInBounds_toArray, List.set_cons_zero, List.set_cons_succ])
        refine wpAnyH_take (i := 15) (v := undef) rfl (by kernel_rfl) (by kernel_rfl) (by kernel_rfl) (fun _ _ _ h => h) (Or.inr ⟨by rfl, rfl⟩) hS ?_
        (try simp only [Act.put, List.getElem_toArray, List.getElem_cons_succ, List.getElem_cons_zero, List.setIfInBounds_toArray, List.set_cons_zero, List.set_cons_succ])
        refine wpAnyH_take (i := 16) (v := undef) rfl (by kernel_rfl) (by kernel_rfl) (by kernel_rfl) (fun _ _ _ h => h) (Or.inr ⟨by rfl, rfl⟩) hS ?_
        (try simp only [Act.put, List.getElem_toArray, List.getElem_cons_succ, List.getElem_cons_zero, List.setIfInBounds_toArray, List.set_cons_zero, List.set_cons_succ])
        refine wpAnyH_take (i := 17) (v := undef) rfl (by kernel_rfl) (by kernel_rfl) (by kernel_rfl) (fun _ _ _ h => h) (Or.inr ⟨by rfl, rfl⟩) hS ?_
        (try simp only [Act.put, List.getElem_toArray, List.getElem_cons_succ, List.getElem_cons_zero, List.setIfInBounds_toArray, List.set_cons_zero, List.set_cons_succ])
        refine wpAnyH_take (i := 18) (v := undef) rfl (by kernel_rfl) (by kernel_rfl) (by kernel_rfl) (fun _ _ _ h => h) (Or.inr ⟨by rfl, rfl⟩) hS ?_
        (try simp only [Act.put, List.getElem_toArray, List.getElem_cons_succ, List.getElem_cons_zero, List.setIfInBounds_toArray, List.set_cons_zero, List.set_cons_succ])
        refine wpAnyH_take (i := 19) (v := undef) rfl (by kernel_rfl) (by kernel_rfl) (by kernel_rfl) (fun _ _ _ h => h) (Or.inr ⟨by rfl, rfl⟩) hS ?_
        (try simp only [Act.put, List.getElem_toArray, List.getElem_cons_succ, List.getElem_cons_zero, List.setIfInBounds_toArray, List.set_cons_zero, List.set_cons_succ])
        refine wpAnyH_take (i := 20) (v := undef) rfl (by kernel_rfl) (by kernel_rfl) (by kernel_rfl) (fun _ _ _ h => h) (Or.inr ⟨by rfl, rfl⟩) hS ?_
        (try simp only [Act.put, List.getElem_toArray, List.getElem_cons_succ, List.getElem_cons_zero, List.setIfInBounds_toArray, List.set_cons_zero, List.set_cons_succ])
        refine wpAnyH_take (i := 21) (v := .bool false) rfl (by kernel_rfl) (by kernel_rfl) (by kernel_rfl) (fun _ _ _ h => h) (Or.inl ⟨by rfl, fun W hW => by (try dsimp only at hW); go_simp⟩) hS ?_
        (try simp only [Act.put, List.getElem_toArray, List.getElem_cons_succ, List.getElem_cons_zero, List.setIfInBounds_toArray, List.set_cons_zero, List.set_cons_succ])
        refine wpAnyH_done (by kernel_rfl) ?_ _
        go_wp2
        exact ⟨⟨trivial, k + 1, by omega, by go_num, hE.trans (Ext.trans (by repeat (first | exact Ext.refl _ | assumption | apply Ext.dn | apply Ext.drew | apply Ext.alloc)) he3), by rw [HT.out, HA.out, HIF.out]; rfl⟩, by simp [intOf]; omega⟩
      · simp only [resB, Bool.and_eq_true, decide_eq_true_eq] at hr
        have hpl : premL s = [s.left, s.right] := by unfold premL; rw [if_neg (by omega), if_neg (by omega)]
        rw [hpl] at HPk
        have hl := HPk.out s.left (by simp)
        have hri := HPk.out s.right (by simp)
        have hl0 : (0 : Int) ≤ s.left := hl.1
        have hr0 : (0 : Int) ≤ s.right := hri.1
        have hl1 : s.left < ((pivTo ss ss.length).length : Int) := by rw [HPL.out]; omega
        have hr1 : s.right < ((pivTo ss ss.length).length : Int) := by rw [HPL.out]; omega
        obtain ⟨_, _, eL, _, _, hqc⟩ := ho1'.lists.open
        injection eL with e1 _ e3
        subst e1; subst e3
        obtain ⟨qb, qo, rfl, _, hq⟩ := hqc s.left.toNat (by omega)
        obtain ⟨xl, ul, hxl, hul⟩ := hq s.left.toNat (by omega)
        obtain ⟨xr, ur, hxr2, hur⟩ := hq s.right.toNat (by omega)
        have gl : getL (pivTo ss ss.length) s.left = xl := by simp [getL, List.getD, hxl]
        have gr : getL (pivTo ss ss.length) s.right = xr := by simp [getL, List.getD, hxr2]
        obtain ⟨lb, lc, rfl, _, _, _⟩ := (hul wr hE).2.open
        obtain ⟨rb, rc, rfl, _, _, _⟩ := (hur wr hE).2.open
        rw [← gl] at hul
        rw [← gr] at hur
        have hLI : ∀ w', Ext w2 w' → Ints w' (.slice lb (getL (pivTo ss ss.length) s.left).length lc) (getL (pivTo ss ss.length) s.left) := fun w' h => (hul w' h).2
        have hRI : ∀ w', Ext w2 w' → Ints w' (.slice rb (getL (pivTo ss ss.length) s.right).length rc) (getL (pivTo ss ss.length) s.right) := fun w' h => (hur w' h).2
        have hLC : ∀ w', Ext w2 w' → w'.cell? ⟨qb, qo + s.left.toNat, none⟩ = some (.slice lb (getL (pivTo ss ss.length) s.left).length lc) := fun w' h => (hul w' h).1
        have hRC : ∀ w', Ext w2 w' → w'.cell? ⟨qb, qo + s.right.toNat, none⟩ = some (.slice rb (getL (pivTo ss ss.length) s.right).length rc) := fun w' h => (hur w' h).1
        have hrr : resB s = true := by simp [resB, hl0, hr0]
        have HIT := Lib.hid (show irrB ss x = (hasB (getL (pivTo ss ss.length) s.left) s.pivot || hasB (getL (pivTo ss ss.length) s.right) s.pivot) by rw [HI.out]; simp [irrS, hrr])
        clear hqc hq hxl hxr2 gl gr hul hur hpl hr hl hri
        go_wp2
        obtain ⟨c0, c1, c2, c3⟩ := (SBlk.made wr (.slice ub s.clause.length uc) s.left s.right s.pivot).cells
        refine wp_region_held_drew (S := (fun W => W.cell? ⟨wr.heap.size, 0, none⟩ = some (.slice ub s.clause.length uc) ∧ W.cell? ⟨wr.heap.size, 1, none⟩ = some (.int .i64 s.left) ∧ W.cell? ⟨wr.heap.size, 2, none⟩ = some (.int .i64 s.right) ∧ W.cell? ⟨wr.heap.size, 3, none⟩ = some (.int .i64 s.pivot) ∧ W.cell? ⟨qb, qo + s.left.toNat, none⟩ = some (.slice lb (getL (pivTo ss ss.length) s.left).length lc) ∧ W.cell? ⟨qb, qo + s.right.toNat, none⟩ = some (.slice rb (getL (pivTo ss ss.length) s.right).length rc))) (by kernel_rfl) ⟨by go_simp, by go_simp, by go_simp, by go_simp, hLC _ (Ext.trans hE (by repeat (first | exact Ext.refl _ | assumption | apply Ext.dn | apply Ext.drew | apply Ext.alloc))), hRC _ (Ext.trans hE (by repeat (first | exact Ext.refl _ | assumption | apply Ext.dn | apply Ext.drew | apply Ext.alloc)))⟩ (fun hS => ?_)
        refine wpAnyH_ready (rs := [0]) (by kernel_rfl) (by simp) ?_
        refine AllReadyH.cons rfl (fun K hK => ?_) AllReadyH.nil
        go_simp
        refine hK.out _ _ hS (fun _ => ?_)
        clear hK K
        (try simp only [Act.put, List.getElem_toArray, List.getElem_cons_succ, List.getElem_cons_zero, List.setIfInBounds_toArray, List.set_cons_zero, List.set_cons_succ])
        refine wpAnyH_ready (rs := [1]) (by kernel_rfl) (by simp) ?_
        refine AllReadyH.cons rfl (fun K hK => ?_) AllReadyH.nil
        go_simp
        go_at_call 58
        refine (isResolvent_any _ s _ (hSV _ (Ext.trans hxr (by repeat (first | exact Ext.refl _ | assumption | apply Ext.dn | apply Ext.drew | apply Ext.alloc))))).mono ?_
        rw [hrr]
        rintro e w3 ⟨rfl, he3⟩
        have hE3 : Ext w2 w3 := Ext.trans (Ext.trans hE (by repeat (first | exact Ext.refl _ | assumption | apply Ext.dn | apply Ext.drew | apply Ext.alloc))) he3
        refine hK.out _ _ ⟨Ext.cell he3 hS.1, Ext.cell he3 hS.2.1, Ext.cell he3 hS.2.2.1, Ext.cell he3 hS.2.2.2.1, hLC _ hE3, hRC _ hE3⟩ (fun hS => ?_)
        clear hK K
        (try simp only [Act.put, List.getElem_toArray, List.getElem_cons_succ, List.getElem_cons_zero, List.setIfInBounds_toArray, List.set_cons_zero, List.set_cons_succ])
        refine wpAnyH_take (i := 2) (v := .bool true) rfl (by kernel_rfl) (by kernel_rfl) (by kernel_rfl) (fun _ _ _ h => h) (Or.inl ⟨by rfl, fun W hW => by (try dsimp only at hW); go_simp⟩) hS ?_
        (try simp only [Act.put, List.getElem_toArray, List.getElem_cons_succ, List.getElem_cons_zero, List.setIfInBounds_toArray, List.set_cons_zero, List.set_cons_succ])
        refine wpAnyH_take (i := 3) (v := ?_) rfl (by kernel_rfl) (by kernel_rfl) (by kernel_rfl) (fun _ _ _ h => h) (Or.inl ⟨by rfl, ?_⟩) hS ?_
        rotate_left
        · (intro W hW; (try dsimp only at hW); go_simp; try with_reducible rfl)
        (try simp only [Act.put, List.getElem_toArray, List.getElem_cons_succ, List.getElem_cons_zero, List.setIfInBounds_toArray, List.set_cons_zero, List.set_cons_succ])
        refine wpAnyH_take (i := 4) (v := ?_) rfl (by kernel_rfl) (by kernel_rfl) (by kernel_rfl) (fun _ _ _ h => h) (Or.inl ⟨by rfl, ?_⟩) hS ?_
        rotate_left
        · (intro W hW; (try dsimp only at hW); go_simp; try with_reducible rfl)
        (try simp only [Act.put, List.getElem_toArray, List.getElem_cons_succ, List.getElem_cons_zero, List.setIfInBounds_toArray, List.set_cons_zero, List.set_cons_succ])
        refine wpAnyH_take (i := 5) (v := ?_) rfl (by kernel_rfl) (by kernel_rfl) (by kernel_rfl) (fun _ _ _ h => h) (Or.inl ⟨by rfl, ?_⟩) hS ?_
        rotate_left
        · (intro W hW; (try dsimp only at hW); go_simp; try with_reducible rfl)
        (try simp only [Act.put, List.getElem_toArray, List.getElem_cons_succ, List.getElem_cons_zero, List.setIfInBounds_toArray, List.set_cons_zero, List.set_cons_succ])
        refine wpAnyH_take (i := 6) (v := ?_) rfl (by kernel_rfl) (by kernel_rfl) (by kernel_rfl) (fun _ _ _ h => h) (Or.inl ⟨by rfl, ?_⟩) hS ?_
        rotate_left
        · (intro W hW; (try dsimp only at hW); go_simp; try with_reducible rfl)
        (try simp only [Act.put, List.getElem_toArray, List.getElem_cons_succ, List.getElem_cons_zero, List.setIfInBounds_toArray, List.set_cons_zero, List.set_cons_succ])
        refine wpAnyH_take (i := 7) (v := ?_) rfl (by kernel_rfl) (by kernel_rfl) (by kernel_rfl) (fun _ _ _ h => h) (Or.inl ⟨by rfl, ?_⟩) hS ?_
        rotate_left
        · (intro W hW; (try dsimp only at hW); go_simp; try with_reducible rfl)
        (try simp only [Act.put, List.getElem_toArray, List.getElem_cons_succ, List.getElem_cons_zero, List.setIfInBounds_toArray, List.set_cons_zero, List.set_cons_succ])
        refine wpAnyH_take (i := 8) (v := ?_) rfl (by kernel_rfl) (by kernel_rfl) (by kernel_rfl) (fun _ _ _ h => h) (Or.inl ⟨by rfl, ?_⟩) hS ?_
        rotate_left
        · (intro W hW; (try dsimp only at hW); go_simp; try with_reducible rfl)
        (try simp only [Act.put, List.getElem_toArray, List.getElem_cons_succ, List.getElem_cons_zero, List.setIfInBounds_toArray, List.set_cons_zero, List.set_cons_succ])
        refine wpAnyH_take (i := 9) (v := ?_) rfl (by kernel_rfl) (by kernel_rfl) (by kernel_rfl) (fun _ _ _ h => h) (Or.inl ⟨by rfl, ?_⟩) hS ?_
        rotate_left
        · (intro W hW; (try dsimp only at hW); go_simp; try with_reducible rfl)
        (try simp only [Act.put, List.getElem_toArray, List.getElem_cons_succ, List.getElem_cons_zero, List.setIfInBounds_toArray, List.set_cons_zero, List.set_cons_succ])
        rcases hb1 : hasB (getL (pivTo ss ss.length) s.left) s.pivot with _ | _
        · have HB1 := Lib.hid hb1
          clear hb1
          refine wpAnyH_ready (rs := [10]) (by kernel_rfl) (by simp) ?_
          refine AllReadyH.cons rfl (fun K hK => ?_) AllReadyH.nil
          go_simp
          go_at_call 83
          refine (Contains_any _ _ _ _ (hLI _ hE3)).mono ?_
          rw [HB1.out]
          rintro e w4 ⟨rfl, rfl⟩
          refine hK.out _ _ hS (fun _ => ?_)
          clear hK K
          (try simp only [Act.put, List.getElem_toArray, List.getElem_cons_succ, List.getElem_cons_zero, List.setIfInBounds_toArray, List.set_cons_zero, List.set_cons_succ])
          refine wpAnyH_take (i := 11) (v := .bool false) rfl (by kernel_rfl) (by kernel_rfl) (by kernel_rfl) (fun _ _ _ h => h) (Or.inl ⟨by rfl, fun W hW => by (try dsimp only at hW); go_simp⟩) hS ?_
          (try simp only [Act.put, List.getElem_toArray, List.getElem_cons_succ, List.getElem_cons_zero, List.setIfInBounds_toArray, List.set_cons_zero, List.set_cons_succ])
          refine wpAnyH_take (i := 12) (v := ?_) rfl (by kernel_rfl) (by kernel_rfl) (by kernel_rfl) (fun _ _ _ h => h) (Or.inl ⟨by rfl, ?_⟩) hS ?_
          rotate_left
          · (intro W hW; (try dsimp only at hW); go_simp; try with_reducible rfl)
          (try simp only [Act.put, List.getElem_toArray, List.getElem_cons_succ, List.getElem_cons_zero, List.setIfInBounds_toArray, List.set_cons_zero, List.set_cons_succ])
          refine wpAnyH_take (i := 13) (v := ?_) rfl (by kernel_rfl) (by kernel_rfl) (by kernel_rfl) (fun _ _ _ h => h) (Or.inl ⟨by rfl, ?_⟩) hS ?_
          rotate_left
          · (intro W hW; (try dsimp only at hW); go_simp; try with_reducible rfl)
          (try simp only [Act.put, List.getElem_toArray, List.getElem_cons_succ, List.getElem_cons_zero, List.setIfInBounds_toArray, List.set_cons_zero, List.set_cons_succ])
          refine wpAnyH_take (i := 14) (v := ?_) rfl (by kernel_rfl) (by kernel_rfl) (by kernel_rfl) (fun _ _ _ h => h) (Or.inl ⟨by rfl, ?_⟩) hS ?_
          rotate_left
          · (intro W hW; (try dsimp only at hW); go_simp; try with_reducible rfl)
          (try simp only [Act.put, List.getElem_toArray, List.getElem_cons_succ, List.getElem_cons_zero, List.setIfInBounds_toArray, List.set_cons_zero, List.set_cons_succ])
          refine wpAnyH_take (i := 15) (v := ?_) rfl (by kernel_rfl) (by kernel_rfl) (by kernel_rfl) (fun _ _ _ h => h) (Or.inl ⟨by rfl, ?_⟩) hS ?_
          rotate_left
          · (intro W hW; (try dsimp only at hW); go_simp; try with_reducible rfl)
          (try simp only [Act.put, List.getElem_toArray, List.getElem_cons_succ, List.getElem_cons_zero, List.setIfInBounds_toArray, List.set_cons_zero, List.set_cons_succ])
          refine wpAnyH_take (i := 16) (v := ?_) rfl (by kernel_rfl) (by kernel_rfl) (by kernel_rfl) (fun _ _ _ h => h) (Or.inl ⟨by rfl, ?_⟩) hS ?_
          rotate_left
          · (intro W hW; (try dsimp only at hW); go_simp; try with_reducible rfl)
          (try simp only [Act.put, List.getElem_toArray, List.getElem_cons_succ, List.getElem_cons_zero, List.setIfInBounds_toArray, List.set_cons_zero, List.set_cons_succ])
          refine wpAnyH_take (i := 17) (v := ?_) rfl (by kernel_rfl) (by kernel_rfl) (by kernel_rfl) (fun _ _ _ h => h) (Or.inl ⟨by rfl, ?_⟩) hS ?_
          rotate_left
          · (intro W hW; (try dsimp only at hW); go_simp; try with_reducible rfl)
          (try simp only [Act.put, List.getElem_toArray, List.getElem_cons_succ, List.getElem_cons_zero, List.setIfInBounds_toArray, List.set_cons_zero, List.set_cons_succ])
          refine wpAnyH_take (i := 18) (v := ?_) rfl (by kernel_rfl) (by kernel_rfl) (by kernel_rfl) (fun _ _ _ h => h) (Or.inl ⟨by rfl, ?_⟩) hS ?_
          rotate_left
          · (intro W hW; (try dsimp only at hW); go_simp; try with_reducible rfl)
          (try simp only [Act.put, List.getElem_toArray, List.getElem_cons_succ, List.getElem_cons_zero, List.setIfInBounds_toArray, List.set_cons_zero, List.set_cons_succ])
          rcases hb2 : hasB (getL (pivTo ss ss.length) s.right) s.pivot with _ | _
          all_goals
            have HB2 := Lib.hid hb2
            clear hb2
            refine wpAnyH_ready (rs := [19]) (by kernel_rfl) (by simp) ?_
            refine AllReadyH.cons rfl (fun K hK => ?_) AllReadyH.nil
            go_simp
            go_at_call 83
            refine (Contains_any _ _ _ _ (hRI _ hE3)).mono ?_
            rw [HB2.out]
            rintro e w4 ⟨rfl, rfl⟩
            refine hK.out _ _ hS (fun _ => ?_)
            clear hK K
            (try simp only [Act.put, List.getElem_toArray, List.getElem_cons_succ, List.getElem_cons_zero, List.setIfInBounds_toArray, List.set_cons_zero, List.set_cons_succ])
            refine wpAnyH_take (i := 20) (v := ?_) rfl (by kernel_rfl) (by kernel_rfl) (by kernel_rfl) (fun _ _ _ h => h) (Or.inl ⟨by rfl, ?_⟩) hS ?_
            rotate_left
            · (intro W hW; (try dsimp only at hW); go_simp; try with_reducible rfl)
            (try simp only [Act.put, List.getElem_toArray, List.getElem_cons_succ, List.getElem_cons_zero, List.setIfInBounds_toArray, List.set_cons_zero, List.set_cons_succ])
            refine wpAnyH_take (i := 21) (v := ?_) rfl (by kernel_rfl) (by kernel_rfl) (by kernel_rfl) (fun _ _ _ h => h) (Or.inl ⟨by rfl, ?_⟩) hS ?_
            rotate_left
            · (intro W hW; (try dsimp only at hW); go_simp; try with_reducible rfl)
            (try simp only [Act.put, List.getElem_toArray, List.getElem_cons_succ, List.getElem_cons_zero, List.setIfInBounds_toArray, List.set_cons_zero, List.set_cons_succ])
            refine wpAnyH_done (by kernel_rfl) ?_ _
            go_wp2
          · exact ⟨⟨trivial, k + 1, by omega, by go_num, hE.trans (Ext.trans (by repeat (first | exact Ext.refl _ | assumption | apply Ext.dn | apply Ext.drew | apply Ext.alloc)) he3), by rw [HT.out, HA.out, HIT.out, HB1.out, HB2.out]; rfl⟩, by simp [intOf]; omega⟩
          · go_ret
            have hf := find_at HA.out HX.out (by rw [HIT.out, HB1.out, HB2.out]; rfl)
            exact ⟨ret_i (by rw [HRB.out, hf]), hE2.trans hE3⟩
        · have HB1 := Lib.hid hb1
          clear hb1
          refine wpAnyH_ready (rs := [10]) (by kernel_rfl) (by simp) ?_
          refine AllReadyH.cons rfl (fun K hK => ?_) AllReadyH.nil
          go_simp
          go_at_call 83
          refine (Contains_any _ _ _ _ (hLI _ hE3)).mono ?_
          rw [HB1.out]
          rintro e w4 ⟨rfl, rfl⟩
          refine hK.out _ _ hS (fun _ => ?_)
          clear hK K
          (try simp only [Act.put, List.getElem_toArray, List.getElem_cons_succ, List.getElem_cons_zero, List.setIfInBounds_toArray, List.set_cons_zero, List.set_cons_succ])
          refine wpAnyH_take (i := 11) (v := .bool true) rfl (by kernel_rfl) (by kernel_rfl) (by kernel_rfl) (fun _ _ _ h => h) (Or.inl ⟨by rfl, fun W hW => by (try dsimp only at hW); go_simp⟩) hS ?_
          (try simp only [Act.put, List.getElem_toArray, List.getElem_cons_succ, List.getElem_cons_zero, List.setIfInBounds_toArray, List.set_cons_zero, List.set_cons_succ])
          refine wpAnyH_take (i := 12) (v := undef) rfl (by kernel_rfl) (by kernel_rfl) (by kernel_rfl) (fun _ _ _ h => h) (Or.inr ⟨by rfl, rfl⟩) hS ?_
          (try simp only [Act.put, List.getElem_toArray, List.getElem_cons_succ, List.getElem_cons_zero, List.setIfInBounds_toArray, List.set_cons_zero, List.set_cons_succ])
          refine wpAnyH_take (i := 13) (v := undef) rfl (by kernel_rfl) (by kernel_rfl) (by kernel_rfl) (fun _ _ _ h => h) (Or.inr ⟨by rfl, rfl⟩) hS ?_
          (try simp only [Act.put, List.getElem_toArray, List.getElem_cons_succ, List.getElem_cons_zero, List.setIfInBounds_toArray, List.set_cons_zero, List.set_cons_succ])
          refine wpAnyH_take (i := 14) (v := undef) rfl (by kernel_rfl) (by kernel_rfl) (by kernel_rfl) (fun _ _ _ h => h) (Or.inr ⟨by rfl, rfl⟩) hS ?_
          (try simp only [Act.put, List.getElem_toArray, List.getElem_cons_succ, List.getElem_cons_zero, List.setIfInBounds_toArray, List.set_cons_zero, List.set_cons_succ])
          refine wpAnyH_take (i := 15) (v := undef) rfl (by kernel_rfl) (by kernel_rfl) (by kernel_rfl) (fun _ _ _ h => h) (Or.inr ⟨by rfl, rfl⟩) hS ?_
          (try simp only [Act.put, List.getElem_toArray, List.getElem_cons_succ, List.getElem_cons_zero, List.setIfInBounds_toArray, List.set_cons_zero, List.set_cons_succ])
          refine wpAnyH_take (i := 16) (v := undef) rfl (by kernel_rfl) (by kernel_rfl) (by kernel_rfl) (fun _ _ _ h => h) (Or.inr ⟨by rfl, rfl⟩) hS ?_
          (try simp only [Act.put, List.getElem_toArray, List.getElem_cons_succ, List.getElem_cons_zero, List.setIfInBounds_toArray, List.set_cons_zero, List.set_cons_succ])
          refine wpAnyH_take (i := 17) (v := undef) rfl (by kernel_rfl) (by kernel_rfl) (by kernel_rfl) (fun _ _ _ h => h) (Or.inr ⟨by rfl, rfl⟩) hS ?_
          (try simp only [Act.put, List.getElem_toArray, List.getElem_cons_succ, List.getElem_cons_zero, List.setIfInBounds_toArray, List.set_cons_zero, List.set_cons_succ])
          refine wpAnyH_take (i := 18) (v := undef) rfl (by kernel_rfl) (by kernel_rfl) (by kernel_rfl) (fun _ _ _ h => h) (Or.inr ⟨by rfl, rfl⟩) hS ?_
          (try simp only [Act.put, List.getElem_toArray, List.getElem_cons_succ, List.getElem_cons_zero, List.setIfInBounds_toArray, List.set_cons_zero, List.set_cons_succ])
          refine wpAnyH_take (i := 19) (v := undef) rfl (by kernel_rfl) (by kernel_rfl) (by kernel_rfl) (fun _ _ _ h => h) (Or.inr ⟨by rfl, rfl⟩) hS ?_
          (try simp only [Act.put, List.getElem_toArray, List.getElem_cons_succ, List.getElem_cons_zero, List.setIfInBounds_toArray, List.set_cons_zero, List.set_cons_succ])
          refine wpAnyH_take (i := 20) (v := ?_) rfl (by kernel_rfl) (by kernel_rfl) (by kernel_rfl) (fun _ _ _ h => h) (Or.inl ⟨by rfl, ?_⟩) hS ?_
          rotate_left
          · (intro W hW; (try dsimp only at hW); go_simp; try with_reducible rfl)
          (try simp only [Act.put, List.getElem_toArray, List.getElem_cons_succ, List.getElem_cons_zero, List.setIfInBounds_toArray, List.set_cons_zero, List.set_cons_succ])
          refine wpAnyH_take (i := 21) (v := ?_) rfl (by kernel_rfl) (by kernel_rfl) (by kernel_rfl) (fun _ _ _ h => h) (Or.inl ⟨by rfl, ?_⟩) hS ?_
          rotate_left
          · (intro W hW; (try dsimp only at hW); go_simp; try with_reducible rfl)
          (try simp only [Act.put, List.getElem_toArray, List.getElem_cons_succ, List.getElem_cons_zero, List.setIfInBounds_toArray, List.set_cons_zero, List.set_cons_succ])
          refine wpAnyH_done (by kernel_rfl) ?_ _
          go_wp2
          go_ret
          have hf := find_at HA.out HX.out (by rw [HIT.out, HB1.out]; rfl)
          exact ⟨ret_i (by rw [HRB.out, hf]), hE2.trans hE3⟩
    · go_wp2
      go_ret
      have hal := HA.out
      rw [List.take_of_length_le (by omega)] at hal
      exact ⟨ret_i (by rw [HRB.out, find_none hal]), hE2.trans hE⟩
end Go.Proofs.YtfnjhodologfeaaGreat
