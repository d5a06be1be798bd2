/- Parts of the proof: C5, C6. -/
import Derived.Test.YtfnjhodologfeaaGreatG10
set_option linter.unusedSimpArgs false
set_option linter.unusedVariables false
/- slices.Max, sums, its closures, StepLeaves, StepDepths -/
namespace Go.Proofs.YtfnjhodologfeaaGreat
open Go.RowKit

/-- greatest of a list that is not empty -/
def maxL (xs : List Int) : Int := xs.tail.foldl max (xs.headD 0)
theorem maxL_all (L : Int) : ∀ (xs : List Int), xs ≠ [] → (decide (maxL xs ≤ L) = xs.all (fun x => decide (x ≤ L))) := by
  have key : ∀ (ys : List Int) (a : Int), decide (ys.foldl max a ≤ L) = (decide (a ≤ L) && ys.all (fun x => decide (x ≤ L))) := by
    intro ys
    induction ys with
    | nil => intro a; rw [List.foldl_nil, List.all_nil, Bool.and_true]
    | cons y ys ih =>
      intro a
      rw [List.foldl_cons, ih, List.all_cons, ← Bool.and_assoc]
      congr 1
      rw [Bool.eq_iff_iff]
      simp
      omega
  intro xs h
  cases xs with
  | nil => exact absurd rfl h
  | cons x xs => exact key xs x

set_option maxHeartbeats 1000000 in
theorem Max_any (v : Value) (xs : List Int) (w : World) (hx : Ints w v xs) (h0 : 0 < xs.length) :
    Calls Tryz.prog 50 #[v] w fun e w' => e = .returned (.int .i64 (maxL xs)) ∧ w = w' := by
  obtain ⟨base, cap, rfl, hc1, hc2, hcell⟩ := hx.open
  obtain ⟨b, off, rfl, hb, hcs⟩ := hcell 0 h0
  obtain ⟨x0, hx0, hi0⟩ := hcs 0 h0
  have hc0 := hi0 w (.refl _)
  rw [Nat.add_zero] at hc0
  have HH := Lib.hid (show xs.headD 0 = x0 by cases xs with | nil => simp at h0 | cons a l => simpa using hx0)
  clear hx hi0 hx0 hcell
  have h0' : ¬ (xs.length : Int) < 1 := by omega
  have h0'' : (0 : Int) < (xs.length : Int) := by omega
  go_enter Tryz.func50, Tryz.ntmps50
  go_wp2
  go_loop [3, 4] (fun m i => ∃ k : Nat, 1 ≤ k ∧ k ≤ xs.length ∧ i = .int .i64 k ∧ m = .int .i64 ((xs.tail.take (k - 1)).foldl max (xs.headD 0))) (fun _ i => xs.length - (intOf i).toNat)
  case atStart => exact ⟨1, Nat.le_refl _, h0, rfl, by rw [HH.out]; rfl⟩
  case round =>
    obtain ⟨k, hk1, hk, rfl, rfl⟩ := hrel
    by_cases hlt : k < xs.length
    · obtain ⟨j, rfl⟩ : ∃ j, k = j + 1 := ⟨k - 1, by omega⟩
      obtain ⟨x, hxk, hci⟩ := hcs (j + 1) hlt
      replace hci := hci w (.refl _)
      have HT := Lib.hid (show (xs.tail.take (j + 1)).foldl max (xs.headD 0) = max ((xs.tail.take j).foldl max (xs.headD 0)) x from foldl_take_succ (by rw [List.getElem?_tail]; exact hxk))
      clear hcs hxk
      rw [Nat.add_sub_cancel]
      generalize (xs.tail.take j).foldl max (xs.headD 0) = V at HT ⊢
      go_wp2
      exact ⟨⟨j + 2, by omega, by omega, by go_num, by rw [show j + 2 - 1 = j + 1 by omega, HT.out]⟩, by simp [intOf]; omega⟩
    · obtain rfl : k = xs.length := by omega
      clear hcs
      go_wp2
      go_ret
      refine ⟨ret_int ?_, rfl⟩
      rw [maxL, List.take_of_length_le (by simp)]
      cases xs <;> rfl

/-- a closure that tells an int of a step -/
def OwnOk (g : Nat) (own : RS → Int) : Prop := ∀ (W : World) (v : Value) (s : RS), StepV W v s → Calls Tryz.prog g #[v] W (IntE W (own s))

set_option maxHeartbeats 400000 in
theorem own_one : OwnOk 42 (fun _ => 1) := by
  intro w v s hv
  obtain ⟨ub, uc, rfl, _⟩ := hv.open
  go_enter Tryz.func42, Tryz.ntmps42
  go_wp2
  go_ret
  exact intE rfl (by repeat (first | exact Ext.refl _ | assumption | apply Ext.dn | apply Ext.drew | apply Ext.alloc))

set_option maxHeartbeats 400000 in
theorem own_ax : OwnOk 48 axN := by
  intro w v s hv
  have hv0 := hv
  obtain ⟨ub, uc, rfl, _⟩ := hv.open
  cases ha : axB s
  all_goals
    go_enter Tryz.func48, Tryz.ntmps48
    go_wp2_with (go_at_call 49; refine (isAxiom_any _ s _ (hv0.ext (by repeat (first | exact Ext.refl _ | assumption | apply Ext.dn | apply Ext.drew | apply Ext.alloc)))).mono ?_; rw [ha]; rintro e w1 ⟨rfl, hd1⟩; obtain ⟨g0, g1, g2, g3, hE1⟩ := own4_cells hd1)
    go_ret
    exact intE (by simp [axN, ha]) hE1

set_option maxRecDepth 100000 in
set_option maxHeartbeats 2000000 in
theorem sums_any (vs : Value) (ss : List RS) (L : Int) (g : Nat) (own : RS → Int) (w : World) (hs : Steps w vs ss) (hpre : PreOk ss) (hn : ss.length ≤ 100000) (hL : 0 ≤ L) (hL2 : L ≤ 1000000) (how : ∀ s, 0 ≤ own s ∧ own s ≤ L + 1)
    (eg : ∀ args w, (callFunc g args).run Tryz.prog w = .ok (.enter g args) w) (hok : OwnOk g own) :
    Calls Tryz.prog 41 #[vs, .int .i64 L, .func (.func g) #[] #[]] w (NewI w (sumL own L ss)) := by
  obtain ⟨base, cap, rfl, hc1, hc2, hcell⟩ := hs.open
  have HBD := Lib.hid (sumF_bd hL how hpre)
  have HPR := Lib.hid hpre
  have HOK := Lib.hid hok
  have HOW := Lib.hid how
  clear hpre hok how
  go_enter Tryz.func41, Tryz.ntmps41
  go_wp2_with (at_make; refine wpList_makeI rfl _ _ rfl ss.length rfl rfl (by omega) ?_; intro w1 ho1 he1)
  go_loopw [17] (fun i wr => ∃ k : Nat, k ≤ ss.length ∧ i = .int .i64 k ∧ OwnI wr w.heap.size (.slice (some ⟨w.heap.size, 0, none⟩) ss.length ss.length) (buildTo (sumF own L) ss k ++ List.replicate (ss.length - k) 0) ∧ Ext w wr) (fun i _ => ss.length - (intOf i).toNat)
  case atStart => exact ⟨0, Nat.zero_le _, rfl, by simpa [buildTo] using ho1, he1⟩
  case round =>
    obtain ⟨k, hk, rfl, hown, hext⟩ := hrel
    by_cases hlt : k < ss.length
    · obtain ⟨b, off, rfl, hb, hcs⟩ := hcell k hlt
      obtain ⟨s, u, hsk, hci⟩ := hcs k hlt
      obtain ⟨hu0, hu1, hu2, hu3, hcI⟩ := hci wr hext
      have hval : StepV wr (.agg #[u, .int .i64 s.left, .int .i64 s.right, .int .i64 s.pivot]) s := ⟨u, rfl, hcI⟩
      obtain ⟨ub, uc, rfl, _, _, _⟩ := hcI.open
      have hSV : ∀ w', Ext w w' → StepV w' (.agg #[.slice ub s.clause.length uc, .int .i64 s.left, .int .i64 s.right, .int .i64 s.pivot]) s := fun w' h => ⟨_, rfl, (hci _ h).2.2.2.2⟩
      have HPk := Lib.hid (HPR.out k s hsk)
      have HS := Lib.hid hsk
      have hgl := hown.base
      have hal := buildTo_length (sumF own L) ss k
      have hab := HBD.out k hk
      generalize hacc : buildTo (sumF own L) ss k = acc at hown hal hab
      obtain ⟨m, hm⟩ : ∃ m, ss.length = k + 1 + m := ⟨ss.length - k - 1, by omega⟩
      have hr : List.replicate (ss.length - k) (0 : Int) = 0 :: List.replicate m 0 := by rw [show ss.length - k = m + 1 by omega]; rfl
      rw [hr] at hown
      clear hr
      have HBS := Lib.hid (show buildTo (sumF own L) ss (k + 1) ++ List.replicate (ss.length - (k + 1)) 0 = acc ++ sumF own L acc s :: List.replicate m 0 by
        rw [buildTo_succ hsk, hacc, show ss.length - (k + 1) = m by omega]; simp)
      have HM := Lib.hid hm
      have HCF := Lib.hid (fun j => capfold_bd hL (fun x hx => (hab x hx).1) ((premL s).take j) (own s) (fun p hp => by
        have := HPk.out p (List.mem_of_mem_take hp)
        rw [hal]; exact this) (HOW.out s).1 (HOW.out s).2)
      have HAB := Lib.hid (show ∀ p ∈ premL s, 0 ≤ getI acc p ∧ getI acc p ≤ L + 1 from fun p hp => by
        have := HPk.out p hp
        exact hab _ (getI_mem this.1 (by omega)))
      have hln0 : (acc ++ (0 : Int) :: List.replicate m 0).length = ss.length := by simp; omega
      clear hcell hcs hci hsk hacc hm hab
      go_wp2_with (first
        | (go_at_fn g; refine (HOK.out _ _ s (hval.ext (by repeat (first | exact Ext.refl _ | assumption | apply Ext.dn | apply Ext.drew | apply Ext.alloc)))).mono ?_; rintro e w2 ⟨rfl, he2⟩; obtain ⟨f0, f1, f2, f3, hE2⟩ := own4_cells he2; have hszr := hE2.size; have hc1 := (hown.ext hE2).at hln0.symm (at_mid hal _); have hset0 := (hown.ext hE2).set hln0.symm k (own s); rw [set_mid hal] at hset0)
        | (go_at_call 78; refine (premises_any _ s _ (hSV _ (Ext.setCell (hext.trans hE2) (Nat.le_refl _) _))).mono ?_; rintro e w3 ⟨r3, rfl, ho3, he3⟩; obtain ⟨rb, rc, rfl, hrc1, hrc2, hrcell⟩ := ho3.openK (g := w.heap.size) (by simp; omega)))
      have hsb : wr.heap.size ≠ w.heap.size := by omega
      have hK3 : Keep w.heap.size w2 w3 := ((Keep.refl _ w2).set k (.int .i64 (own s))).trans (.of_ext he3)
      replace f0 := hK3.cell f0 hsb
      replace f1 := hK3.cell f1 hsb
      replace f2 := hK3.cell f2 hsb
      replace f3 := hK3.cell f3 hsb
      have hown2 := hset0.ext he3
      have hx2 := (Ext.setCell (hext.trans hE2) (Nat.le_refl _) (.int .i64 (own s))).trans he3
      clear hown hext hval ho3 he3 he2 hE2 hset0 hK3 hc1 hln0
      have hpl := premL_len s
      have HV := Lib.hid (show sumF own L acc s = (premL s).foldl (fun v p => min (v + getI acc p) (L + 1)) (own s) from rfl)
      generalize premL s = P at HPk hpl HV hrc1 hrcell HCF HAB ⊢
      generalize own s = OV at hown2 HV HCF ⊢
      go_loopw [31] (fun i wr' => ∃ j : Nat, j ≤ P.length ∧ i = .int .i64 j ∧ OwnI wr' w.heap.size (.slice (some ⟨w.heap.size, 0, none⟩) ss.length ss.length) (acc ++ (P.take j).foldl (fun v p => min (v + getI acc p) (L + 1)) OV :: List.replicate m 0) ∧ Keep w.heap.size w3 wr') (fun i _ => P.length - (intOf i).toNat)
      case atStart => exact ⟨0, Nat.zero_le _, rfl, hown2, .refl _ _⟩
      case round =>
        obtain ⟨j, hj, rfl, hown, hkp⟩ := hrel
        have hln : (acc ++ (P.take j).foldl (fun v p => min (v + getI acc p) (L + 1)) OV :: List.replicate m 0).length = ss.length := by have := HM.out; simp; omega
        by_cases hjl : j < P.length
        · obtain ⟨gb, rfl, hri⟩ := hrcell j hjl
          obtain ⟨p, hpj, hpc⟩ := hri j hjl
          have hpc' := hpc _ hkp
          have hpm := List.mem_of_getElem? hpj
          obtain ⟨hp0, hp1⟩ := HPk.out p hpm
          obtain ⟨hq0, hq1⟩ := HAB.out p hpm
          obtain ⟨q, rfl⟩ : ∃ q : Nat, p = (q : Int) := ⟨p.toNat, by omega⟩
          have hqk : q < k := by omega
          have hqn : (q : Int) < (ss.length : Int) := by omega
          have hc1 := (hown.at hln.symm (at_mid hal _)).1
          have hf1 := (hown.at hln.symm (at_mid hal _)).2
          have hc2 := (hown.at hln.symm (getI_ahead hal hqk _)).1
          have HT := Lib.hid (foldl_take_succ (g := fun v p => min (v + getI acc p) (L + 1)) (v := OV) hpj)
          have hvb := HCF.out j
          clear hrcell hri hpc hpj hpm
          generalize (P.take j).foldl (fun v p => min (v + getI acc p) (L + 1)) OV = V at hown hln hc1 hf1 hc2 HT hvb
          have hset := hown.set hln.symm k (min (V + getI acc (q : Int)) (L + 1))
          rw [set_mid hal] at hset
          generalize getI acc (q : Int) = G at hc2 HT hset hq0 hq1
          go_wp2
          go_region
          go_wp2
          refine ⟨⟨j + 1, by omega, by go_num, ?_, (hkp.set k _).drew⟩, by simp [intOf]; omega⟩
          rw [HT.out]
          exact hset
        · have hjP : P.take j = P := List.take_of_length_le (by omega)
          rw [hjP] at hown
          clear hrcell hln
          have hxr := hkp.ext hx2 (Nat.le_refl _)
          clear hkp f0 f1 f2 f3
          go_wp2
          refine ⟨⟨k + 1, by omega, by go_num, ?_, hxr⟩, by simp [intOf]; omega⟩
          rw [HBS.out, HV.out]
          exact hown
    · obtain rfl : k = ss.length := by omega
      clear hcell
      go_wp2
      go_ret
      refine ⟨_, rfl, ?_, hext⟩
      rw [Nat.sub_self, List.replicate_zero, List.append_nil] at hown
      exact hown

/-- a fresh list told along with a bool -/
def NewP (w : World) (ok : Bool) (xs : List Int) (e : Ending) (w' : World) : Prop :=
  ∃ r, e = .returned (.tuple #[r, .bool ok]) ∧ Ints w' r (if ok then xs else []) ∧ Ext w w'

theorem takes_len {f : CNF} {ss : List RS} (h : takesB f ss = true) : ss.length ≤ 100000 := by
  have := (takes_corr h).1
  omega

set_option maxHeartbeats 1000000 in
theorem StepDepths_any (v vs : Value) (f : CNF) (ss : List RS) (w : World) (hx : CnfV w v f) (hs : Steps w vs ss) :
    Calls Tryz.prog 10 #[v, vs] w (NewP w (takesB f ss) (depL ss)) := by
  have hx0 := hx
  obtain ⟨cv, rfl, hl⟩ := hx
  obtain ⟨lb, lc, rfl, _, _, _⟩ := hl.open
  cases ht : takesB f ss
  · go_enter Tryz.func10, Tryz.ntmps10
    go_wp2_with (go_at_call 39; refine (isProof_any _ vs f ss _ (hx0.ext (by repeat (first | exact Ext.refl _ | assumption | apply Ext.dn | apply Ext.drew | apply Ext.alloc))) (hs.ext (by repeat (first | exact Ext.refl _ | assumption | apply Ext.dn | apply Ext.drew | apply Ext.alloc)))).mono ?_; rw [ht]; rintro e w1 ⟨rfl, hd1⟩; obtain ⟨f0, f1, hE1⟩ := own2_cells hd1)
    go_ret2
    exact ⟨_, rfl, ints_nil _ _ _ (by omega), hE1⟩
  · have HT := Lib.hid ht
    go_enter Tryz.func10, Tryz.ntmps10
    go_wp2_with (first | (go_at_call 39; refine (isProof_any _ vs f ss _ (hx0.ext (by repeat (first | exact Ext.refl _ | assumption | apply Ext.dn | apply Ext.drew | apply Ext.alloc))) (hs.ext (by repeat (first | exact Ext.refl _ | assumption | apply Ext.dn | apply Ext.drew | apply Ext.alloc)))).mono ?_; rw [ht]; rintro e w1 ⟨rfl, hd1⟩; obtain ⟨f0, f1, hE1⟩ := own2_cells hd1) | (go_at_call 46; refine (stepDepths_any vs ss _ (hs.ext hE1) (takes_pre HT.out) (takes_len HT.out)).mono ?_; rintro e w2 ⟨r2, rfl, ho2, he2⟩))
    go_ret2
    exact ⟨_, rfl, ho2.ints, hE1.trans he2⟩

set_option maxHeartbeats 1000000 in
theorem sStepDepths_any (v vs : Value) (f : CNF) (ss : List RS) (w : World) (hx : CnfV w v f) (hs : Steps w vs ss) :
    Calls Tryz.prog 11 #[v, vs] w (NewP w (takesB f ss) (depL ss)) := by
  have hx0 := hx
  obtain ⟨cv, rfl, hl⟩ := hx
  obtain ⟨lb, lc, rfl, _, _, _⟩ := hl.open
  cases ht : takesB f ss
  · go_enter Tryz.func11, Tryz.ntmps11
    go_wp2_with (go_at_call 44; refine (l8Takes_any _ vs f ss _ (hx0.ext (by repeat (first | exact Ext.refl _ | assumption | apply Ext.dn | apply Ext.drew | apply Ext.alloc))) (hs.ext (by repeat (first | exact Ext.refl _ | assumption | apply Ext.dn | apply Ext.drew | apply Ext.alloc)))).mono ?_; rw [ht]; rintro e w1 ⟨rfl, hd1⟩; obtain ⟨f0, f1, hE1⟩ := own2_cells hd1)
    go_ret2
    exact ⟨_, rfl, (OwnI.empty w1 0 (Nat.zero_le _)).ints, hE1.alloc _⟩
  · have HT := Lib.hid ht
    go_enter Tryz.func11, Tryz.ntmps11
    go_wp2_with (first | (go_at_call 44; refine (l8Takes_any _ vs f ss _ (hx0.ext (by repeat (first | exact Ext.refl _ | assumption | apply Ext.dn | apply Ext.drew | apply Ext.alloc))) (hs.ext (by repeat (first | exact Ext.refl _ | assumption | apply Ext.dn | apply Ext.drew | apply Ext.alloc)))).mono ?_; rw [ht]; rintro e w1 ⟨rfl, hd1⟩; obtain ⟨f0, f1, hE1⟩ := own2_cells hd1) | (go_at_call 47; refine (l8Depths_any vs ss _ (hs.ext hE1) (takes_pre HT.out) (takes_len HT.out)).mono ?_; rintro e w2 ⟨r2, rfl, ho2, he2⟩))
    go_ret2
    exact ⟨_, rfl, ho2.ints, hE1.trans he2⟩

/-- whether StepLeaves tells, and what -/
def tellsB (f : CNF) (ss : List RS) : Bool := takesB f ss && (leavesO ss).isSome
theorem leavesO_get {ss : List RS} (h : (leavesO ss).isSome = true) : leavesO ss = some (sumL axN 1000000 ss) := by
  unfold leavesO at h ⊢
  split
  · rfl
  · rename_i h2; rw [if_neg h2] at h; simp at h
theorem leavesO_isSome (ss : List RS) : (leavesO ss).isSome = (sumL axN 1000000 ss).all (fun x => decide (x ≤ 1000000)) := by
  unfold leavesO
  cases h : (sumL axN 1000000 ss).all (fun x => decide (x ≤ 1000000))
  · rfl
  · rfl

set_option maxHeartbeats 1000000 in
theorem sStepLeaves_any (v vs : Value) (f : CNF) (ss : List RS) (w : World) (hx : CnfV w v f) (hs : Steps w vs ss) :
    Calls Tryz.prog 14 #[v, vs] w (NewP w (tellsB f ss) (sumL axN 1000000 ss)) := by
  have hx0 := hx
  obtain ⟨cv, rfl, hl⟩ := hx
  obtain ⟨lb, lc, rfl, _, _, _⟩ := hl.open
  cases ht : takesB f ss
  · have HTL := Lib.hid (show tellsB f ss = false by simp [tellsB, ht])
    go_enter Tryz.func14, Tryz.ntmps14
    go_wp2_with (go_at_call 44; refine (l8Takes_any _ vs f ss _ (hx0.ext (by repeat (first | exact Ext.refl _ | assumption | apply Ext.dn | apply Ext.drew | apply Ext.alloc))) (hs.ext (by repeat (first | exact Ext.refl _ | assumption | apply Ext.dn | apply Ext.drew | apply Ext.alloc)))).mono ?_; rw [ht]; rintro e w1 ⟨rfl, hd1⟩; obtain ⟨f0, f1, hE1⟩ := own2_cells hd1)
    go_ret2
    rw [HTL.out]
    exact ⟨_, rfl, (OwnI.empty w1 0 (Nat.zero_le _)).ints, hE1.alloc _⟩
  · have HT := Lib.hid ht
    have HTL := Lib.hid (show tellsB f ss = (leavesO ss).isSome by simp [tellsB, ht])
    go_enter Tryz.func14, Tryz.ntmps14
    go_wp2_with (first | (go_at_call 44; refine (l8Takes_any _ vs f ss _ (hx0.ext (by repeat (first | exact Ext.refl _ | assumption | apply Ext.dn | apply Ext.drew | apply Ext.alloc))) (hs.ext (by repeat (first | exact Ext.refl _ | assumption | apply Ext.dn | apply Ext.drew | apply Ext.alloc)))).mono ?_; rw [ht]; rintro e w1 ⟨rfl, hd1⟩; obtain ⟨f0, f1, hE1⟩ := own2_cells hd1) | (go_at_call 51; refine (l8Leaves_any vs ss _ (hs.ext hE1) (takes_pre HT.out) (takes_len HT.out)).mono ?_; rintro e w2 ⟨r2, rfl, ho2, he2⟩))
    go_ret2
    rw [HTL.out]
    refine ⟨_, rfl, ?_, hE1.trans he2⟩
    cases hso : (leavesO ss).isSome
    · have : leavesO ss = none := by simpa using hso
      rw [this] at ho2
      exact ho2.ints
    · rw [leavesO_get hso] at ho2
      exact ho2.ints

set_option maxHeartbeats 1000000 in
theorem StepLeaves_any (v vs : Value) (f : CNF) (ss : List RS) (w : World) (hx : CnfV w v f) (hs : Steps w vs ss) :
    Calls Tryz.prog 13 #[v, vs] w (NewP w (tellsB f ss) (sumL axN 1000000 ss)) := by
  have hx0 := hx
  obtain ⟨cv, rfl, hl⟩ := hx
  obtain ⟨lb, lc, rfl, _, _, _⟩ := hl.open
  cases ht : takesB f ss
  · have HTL := Lib.hid (show tellsB f ss = false by simp [tellsB, ht])
    go_enter Tryz.func13, Tryz.ntmps13
    go_wp2_with (go_at_call 39; refine (isProof_any _ vs f ss _ (hx0.ext (by repeat (first | exact Ext.refl _ | assumption | apply Ext.dn | apply Ext.drew | apply Ext.alloc))) (hs.ext (by repeat (first | exact Ext.refl _ | assumption | apply Ext.dn | apply Ext.drew | apply Ext.alloc)))).mono ?_; rw [ht]; rintro e w1 ⟨rfl, hd1⟩; obtain ⟨f0, f1, hE1⟩ := own2_cells hd1)
    go_ret2
    rw [HTL.out]
    exact ⟨_, rfl, ints_nil _ _ _ (by omega), hE1⟩
  · have HT := Lib.hid ht
    have hsl : (sumL axN 1000000 ss).length = ss.length := buildTo_length _ _ _
    have hpos := (takes_corr ht).1.1
    have hne : sumL axN 1000000 ss ≠ [] := fun h => by rw [h] at hsl; simp at hsl; omega
    have HTL := Lib.hid (show tellsB f ss = decide (maxL (sumL axN 1000000 ss) ≤ 1000000) by
      rw [maxL_all _ _ hne, ← leavesO_isSome]; simp [tellsB, ht])
    have eg : ∀ args w, (callFunc 48 args).run Tryz.prog w = .ok (.enter 48 args) w := fun args w => by kernel_rfl
    by_cases hm : maxL (sumL axN 1000000 ss) ≤ 1000000
    all_goals
      go_enter Tryz.func13, Tryz.ntmps13
      go_wp2_with (first
        | (go_at_call 39; refine (isProof_any _ vs f ss _ (hx0.ext (by repeat (first | exact Ext.refl _ | assumption | apply Ext.dn | apply Ext.drew | apply Ext.alloc))) (hs.ext (by repeat (first | exact Ext.refl _ | assumption | apply Ext.dn | apply Ext.drew | apply Ext.alloc)))).mono ?_; rw [ht]; rintro e w1 ⟨rfl, hd1⟩; obtain ⟨f0, f1, hE1⟩ := own2_cells hd1)
        | (go_at_call 41; refine (sums_any vs ss 1000000 _ axN _ (hs.ext hE1) (takes_pre HT.out) (takes_len HT.out) (by omega) (by omega) (axN_bd 1000000 (by omega)) eg own_ax).mono ?_; rintro e w2 ⟨r2, rfl, ho2, he2⟩)
        | (go_at_call 50; refine (Max_any _ _ _ ho2.ints (by omega)).mono ?_; rintro e w3 ⟨rfl, rfl⟩))
      go_ret2
    · have h2 : tellsB f ss = true := by rw [HTL.out]; simpa using hm
      rw [h2]
      exact ⟨_, rfl, ho2.ints, hE1.trans he2⟩
    · have h2 : tellsB f ss = false := by rw [HTL.out]; simpa using hm
      rw [h2]
      exact ⟨_, rfl, ints_nil _ _ _ (by omega), hE1.trans he2⟩
end Go.Proofs.YtfnjhodologfeaaGreat
/- stepUses, StepUses, IsTreeLike -/
namespace Go.Proofs.YtfnjhodologfeaaGreat
open Go.RowKit

/-- how often each number below n stands in D -/
def cnts (n : Nat) (D : List Int) : List Int := (List.range n).map fun (j : Nat) => (D.count (j : Int) : Int)
theorem cnts_length (n : Nat) (D : List Int) : (cnts n D).length = n := by simp [cnts]
theorem cnts_at {n : Nat} {D : List Int} {q : Nat} (h : q < n) : (cnts n D)[q]? = some (D.count (q : Int) : Int) := by
  simp [cnts, h]
theorem cnts_nil (n : Nat) : cnts n [] = List.replicate n 0 := by
  apply List.ext_getElem?
  intro i
  by_cases h : i < n
  · rw [cnts_at h]; simp [h]
  · rw [List.getElem?_eq_none (by rw [cnts_length]; omega), List.getElem?_eq_none (by simp; omega)]
theorem cnts_set {n : Nat} {D : List Int} {q : Nat} (h : q < n) : (cnts n D).set q ((D.count (q : Int) : Int) + 1) = cnts n (D ++ [(q : Int)]) := by
  apply List.ext_getElem?
  intro i
  by_cases hi : i < n
  · rw [cnts_at hi, List.getElem?_set, cnts_at hi]
    by_cases hq : q = i
    · subst hq
      rw [if_pos rfl, if_pos (by rw [cnts_length]; omega)]
      simp
    · rw [if_neg hq]
      have hne : ¬ ((q : Int) = (i : Int)) := by omega
      simp [List.count_append, List.count_cons, hne]
  · rw [List.getElem?_eq_none (by rw [List.length_set, cnts_length]; omega), List.getElem?_eq_none (by rw [cnts_length]; omega)]

/-- the premises of the first k steps -/
def premTo (ss : List RS) (k : Nat) : List Int := (ss.take k).flatMap premL
def usesL (ss : List RS) : List Int := cnts ss.length (premTo ss ss.length)
theorem premTo_succ {ss : List RS} {k : Nat} {s : RS} (h : ss[k]? = some s) : premTo ss (k + 1) = premTo ss k ++ premL s := by
  unfold premTo
  rw [take_succ_at h]; simp
theorem premTo_len (ss : List RS) (k : Nat) : (premTo ss k).length ≤ 2 * k := by
  unfold premTo
  induction k with
  | zero => simp
  | succ k ih =>
    by_cases hk : k < ss.length
    · rw [take_succ_at (List.getElem?_eq_getElem hk)]
      have := premL_len ss[k]
      simp only [List.flatMap_append, List.length_append, List.flatMap_cons, List.flatMap_nil, List.append_nil]
      omega
    · rw [List.take_of_length_le (by omega)] at ih ⊢
      omega

set_option maxRecDepth 100000 in
set_option maxHeartbeats 2000000 in
theorem stepUses_any (vs : Value) (ss : List RS) (w : World) (hs : Steps w vs ss) (hpre : PreOk ss) (hn : ss.length ≤ 100000) :
    Calls Tryz.prog 52 #[vs] w (NewI w (usesL ss)) := by
  obtain ⟨base, cap, rfl, hc1, hc2, hcell⟩ := hs.open
  have HPR := Lib.hid hpre
  clear hpre
  go_enter Tryz.func52, Tryz.ntmps52
  go_wp2_with (at_make; refine wpList_makeI rfl _ _ rfl ss.length rfl rfl (by omega) ?_; intro w1 ho1 he1)
  go_loopw [13] (fun i wr => ∃ k : Nat, k ≤ ss.length ∧ i = .int .i64 k ∧ OwnI wr w.heap.size (.slice (some ⟨w.heap.size, 0, none⟩) ss.length ss.length) (cnts ss.length (premTo ss k)) ∧ Ext w wr) (fun i _ => ss.length - (intOf i).toNat)
  case atStart => exact ⟨0, Nat.zero_le _, rfl, by rw [show premTo ss 0 = [] from rfl, cnts_nil]; exact ho1, he1⟩
  case round =>
    obtain ⟨k, hk, rfl, hown, hext⟩ := hrel
    by_cases hlt : k < ss.length
    · obtain ⟨b, off, rfl, hb, hcs⟩ := hcell k hlt
      obtain ⟨s, u, hsk, hci⟩ := hcs k hlt
      obtain ⟨hu0, hu1, hu2, hu3, hcI⟩ := hci wr hext
      have hval : StepV wr (.agg #[u, .int .i64 s.left, .int .i64 s.right, .int .i64 s.pivot]) s := ⟨u, rfl, hcI⟩
      obtain ⟨ub, uc, rfl, _, _, _⟩ := hcI.open
      have HPk := Lib.hid (HPR.out k s hsk)
      have hgl := hown.base
      have HBS := Lib.hid (premTo_succ hsk)
      have hdl := premTo_len ss k
      clear hcell hcs hci hsk
      go_wp2_with (first | (go_at_call 78; refine (premises_any _ s _ (hval.ext (by repeat (first | exact Ext.refl _ | assumption | apply Ext.dn | apply Ext.drew | apply Ext.alloc)))).mono ?_; rintro e w2 ⟨r2, rfl, ho2, he2⟩; obtain ⟨f0, f1, f2, f3, hE2⟩ := own4_cells he2; have hszr := hE2.size; obtain ⟨rb, rc, rfl, hrc1, hrc2, hrcell⟩ := ho2.openK (g := w.heap.size) (by simp; omega)))
      have hown2 := hown.ext hE2
      have hx2 := hext.trans hE2
      have hpl := premL_len s
      clear hown hext hval ho2 he2 hE2 f0 f1 f2 f3
      generalize premTo ss k = D at hown2 hdl HBS
      generalize premL s = P at HPk hpl hrc1 hrcell HBS ⊢
      go_loopw [20] (fun i wr' => ∃ j : Nat, j ≤ P.length ∧ i = .int .i64 j ∧ OwnI wr' w.heap.size (.slice (some ⟨w.heap.size, 0, none⟩) ss.length ss.length) (cnts ss.length (D ++ P.take j)) ∧ Keep w.heap.size w2 wr') (fun i _ => P.length - (intOf i).toNat)
      case atStart => exact ⟨0, Nat.zero_le _, rfl, by simpa using hown2, .refl _ _⟩
      case round =>
        obtain ⟨j, hj, rfl, hown, hkp⟩ := hrel
        by_cases hjl : j < P.length
        · obtain ⟨gb, rfl, hri⟩ := hrcell j hjl
          obtain ⟨p, hpj, hpc⟩ := hri j hjl
          have hpc' := hpc _ hkp
          have hpm := List.mem_of_getElem? hpj
          obtain ⟨hp0, hp1⟩ := HPk.out p hpm
          obtain ⟨q, rfl⟩ : ∃ q : Nat, p = (q : Int) := ⟨p.toNat, by omega⟩
          have hqn : q < ss.length := by omega
          have hqn' : (q : Int) < (ss.length : Int) := by omega
          have hc1 := hown.at (cnts_length _ _).symm (cnts_at hqn)
          have hset := hown.set (cnts_length _ _).symm q (((D ++ P.take j).count (q : Int) : Int) + 1)
          rw [cnts_set hqn, List.append_assoc, ← take_succ_at hpj] at hset
          have hcb := List.count_le_length (a := (q : Int)) (l := D ++ P.take j)
          have hcl : (D ++ P.take j).length ≤ 2 * k + 2 := by simp; omega
          clear hrcell hri hpc hpj hpm
          obtain ⟨hc1, hf1⟩ := hc1
          generalize (D ++ P.take j).length = QL at hcb hcl
          generalize (D ++ P.take j).count (q : Int) = V at hc1 hset hcb
          have hcb2 : (V : Int) ≤ 200002 := by omega
          go_wp2
          exact ⟨⟨j + 1, by omega, by go_num, hset, hkp.set q _⟩, by simp [intOf]; omega⟩
        · have hjP : P.take j = P := List.take_of_length_le (by omega)
          rw [hjP] at hown
          clear hrcell
          have hxr := hkp.ext hx2 (Nat.le_refl _)
          clear hkp
          go_wp2
          refine ⟨⟨k + 1, by omega, by go_num, ?_, hxr⟩, by simp [intOf]; omega⟩
          rw [HBS.out]
          exact hown
    · obtain rfl : k = ss.length := by omega
      clear hcell
      go_wp2
      go_ret
      exact ⟨_, rfl, hown, hext⟩

set_option maxHeartbeats 1000000 in
theorem StepUses_any (v vs : Value) (f : CNF) (ss : List RS) (w : World) (hx : CnfV w v f) (hs : Steps w vs ss) :
    Calls Tryz.prog 15 #[v, vs] w (NewP w (takesB f ss) (usesL ss)) := by
  have hx0 := hx
  obtain ⟨cv, rfl, hl⟩ := hx
  obtain ⟨lb, lc, rfl, _, _, _⟩ := hl.open
  cases ht : takesB f ss
  · go_enter Tryz.func15, Tryz.ntmps15
    go_wp2_with (go_at_call 39; refine (isProof_any _ vs f ss _ (hx0.ext (by repeat (first | exact Ext.refl _ | assumption | apply Ext.dn | apply Ext.drew | apply Ext.alloc))) (hs.ext (by repeat (first | exact Ext.refl _ | assumption | apply Ext.dn | apply Ext.drew | apply Ext.alloc)))).mono ?_; rw [ht]; rintro e w1 ⟨rfl, hd1⟩; obtain ⟨f0, f1, hE1⟩ := own2_cells hd1)
    go_ret2
    exact ⟨_, rfl, ints_nil _ _ _ (by omega), hE1⟩
  · have HT := Lib.hid ht
    go_enter Tryz.func15, Tryz.ntmps15
    go_wp2_with (first | (go_at_call 39; refine (isProof_any _ vs f ss _ (hx0.ext (by repeat (first | exact Ext.refl _ | assumption | apply Ext.dn | apply Ext.drew | apply Ext.alloc))) (hs.ext (by repeat (first | exact Ext.refl _ | assumption | apply Ext.dn | apply Ext.drew | apply Ext.alloc)))).mono ?_; rw [ht]; rintro e w1 ⟨rfl, hd1⟩; obtain ⟨f0, f1, hE1⟩ := own2_cells hd1) | (go_at_call 52; refine (stepUses_any vs ss _ (hs.ext hE1) (takes_pre HT.out) (takes_len HT.out)).mono ?_; rintro e w2 ⟨r2, rfl, ho2, he2⟩))
    go_ret2
    exact ⟨_, rfl, ho2.ints, hE1.trans he2⟩

/-- a pair of bools -/
def Bool2E (w : World) (a b : Bool) (e : Ending) (w' : World) : Prop := e = .returned (.tuple #[.bool a, .bool b]) ∧ Ext w w'
def treeB (ss : List RS) : Bool := decide (maxL (usesL ss) ≤ 1)
set_option maxHeartbeats 1000000 in
theorem IsTreeLike_any (v vs : Value) (f : CNF) (ss : List RS) (w : World) (hx : CnfV w v f) (hs : Steps w vs ss) :
    Calls Tryz.prog 16 #[v, vs] w (Bool2E w (takesB f ss && treeB ss) (takesB f ss)) := by
  have hx0 := hx
  obtain ⟨cv, rfl, hl⟩ := hx
  obtain ⟨lb, lc, rfl, _, _, _⟩ := hl.open
  cases ht : takesB f ss
  · go_enter Tryz.func16, Tryz.ntmps16
    go_wp2_with (go_at_call 39; refine (isProof_any _ vs f ss _ (hx0.ext (by repeat (first | exact Ext.refl _ | assumption | apply Ext.dn | apply Ext.drew | apply Ext.alloc))) (hs.ext (by repeat (first | exact Ext.refl _ | assumption | apply Ext.dn | apply Ext.drew | apply Ext.alloc)))).mono ?_; rw [ht]; rintro e w1 ⟨rfl, hd1⟩; obtain ⟨f0, f1, hE1⟩ := own2_cells hd1)
    go_ret2
    exact ⟨rfl, hE1⟩
  · have HT := Lib.hid ht
    have hpos := (takes_corr ht).1.1
    have hlen : 0 < (usesL ss).length := by rw [usesL, cnts_length]; exact hpos
    have HTB := Lib.hid (show treeB ss = decide (maxL (usesL ss) ≤ 1) from rfl)
    cases hb : decide (maxL (usesL ss) ≤ 1)
    all_goals
      go_enter Tryz.func16, Tryz.ntmps16
      go_wp2_with (first
        | (go_at_call 39; refine (isProof_any _ vs f ss _ (hx0.ext (by repeat (first | exact Ext.refl _ | assumption | apply Ext.dn | apply Ext.drew | apply Ext.alloc))) (hs.ext (by repeat (first | exact Ext.refl _ | assumption | apply Ext.dn | apply Ext.drew | apply Ext.alloc)))).mono ?_; rw [ht]; rintro e w1 ⟨rfl, hd1⟩; obtain ⟨f0, f1, hE1⟩ := own2_cells hd1) | (go_at_call 52; refine (stepUses_any vs ss _ (hs.ext hE1) (takes_pre HT.out) (takes_len HT.out)).mono ?_; rintro e w2 ⟨r2, rfl, ho2, he2⟩)
        | (go_at_call 50; refine (Max_any _ _ _ ho2.ints hlen).mono ?_; rintro e w3 ⟨rfl, rfl⟩))
      go_ret2
      rw [HTB.out, hb]
      exact ⟨by simp [hb], hE1.trans he2⟩
end Go.Proofs.YtfnjhodologfeaaGreat
