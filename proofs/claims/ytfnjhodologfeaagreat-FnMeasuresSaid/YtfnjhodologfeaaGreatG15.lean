/- Parts of the proof: C12, C13, Shelf2, C14, K4. -/
import Derived.Test.YtfnjhodologfeaaGreatG14
import Derived.Test.YtfnjhodologfeaaGreatProg
import Derived.Ground.NamesProg
import Derived.Shelf.Sort.Plain
import Derived.Shelf.Slices.In.SortNone
import Derived.Shelf.Slices.Reverse
set_option linter.unusedSimpArgs false
set_option linter.unusedVariables false
/- sizes of unfoldings; impl.UnfoldProof -/
namespace Go.Proofs.YtfnjhodologfeaaGreat
open Go.RowKit Go.Maps

theorem getI_build (f : List Int → RS → Int) (ss : List RS) {k K : Nat} (hk : k < K) (hK : K ≤ ss.length) {s : RS} (hs : ss[k]? = some s) : getI (buildTo f ss K) (k : Int) = f (buildTo f ss k) s := by
  have h1 : (buildTo f ss K)[k]? = (buildTo f ss (k + 1))[k]? := by
    rw [← buildTo_take f ss (show k + 1 ≤ K by omega), List.getElem?_take, if_pos (by omega)]
  have h2 : (buildTo f ss (k + 1))[k]? = some (f (buildTo f ss k) s) := by
    rw [buildTo_succ hs]
    have := buildTo_length f ss k
    rw [List.getElem?_append_right (by omega), this]; simp
  exact getI_at (by rw [h1, h2])
theorem getI_build_lt (f : List Int → RS → Int) (ss : List RS) {k K : Nat} (hk : k ≤ K) {p : Int} (h0 : 0 ≤ p) (hp : p < (k : Int)) : getI (buildTo f ss k) p = getI (buildTo f ss K) p := by
  unfold getI List.getD
  congr 1
  rw [← buildTo_take f ss hk, List.getElem?_take, if_pos (by omega)]

/-- the size of an unfolding -/
def tsz (ss : List RS) : Nat → Int → Int
  | 0, _ => 0
  | n + 1, i => match ss[i.toNat]? with
    | none => 0
    | some s => if axB s = true then 1 else if resB s = true then tsz ss n s.left + tsz ss n s.right + 1 else tsz ss n s.left + 1
theorem unfL_tsz (ss : List RS) : ∀ n out i, ((unfL ss n out i).length : Int) = out.length + tsz ss n i
  | 0, out, i => by simp [unfL, tsz]
  | n + 1, out, i => by
    rw [unfL, tsz]
    cases h : ss[i.toNat]? with
    | none => simp
    | some s =>
      have h1 := unfL_tsz ss n out s.left
      have h2 := unfL_tsz ss n (unfL ss n out s.left) s.right
      simp only []
      split
      · simp
      · split
        · simp only [List.length_append, List.length_cons, List.length_nil]; omega
        · simp only [List.length_append, List.length_cons, List.length_nil]; omega
theorem tsz_nonneg (ss : List RS) (n : Nat) (i : Int) : 0 ≤ tsz ss n i := by
  have h1 := unfL_tsz ss n [] i
  simp at h1
  omega
theorem tsz_fuel {ss : List RS} (hpre : PreOk ss) : ∀ (n m : Nat) (i : Int), 0 ≤ i → i < (n : Int) → i < (m : Int) → tsz ss n i = tsz ss m i
  | 0, m, i, h0, h1, h2 => by omega
  | n + 1, 0, i, h0, h1, h2 => by omega
  | n + 1, m + 1, i, h0, h1, h2 => by
    rw [tsz, tsz]
    cases h : ss[i.toNat]? with
    | none => rfl
    | some s =>
      have hp := hpre _ s h
      simp only []
      cases ha : axB s
      · obtain ⟨l0, l1⟩ := hp _ (prem_left ha)
        rw [tsz_fuel hpre n m s.left l0 (by omega) (by omega)]
        cases hr : resB s
        · rfl
        · obtain ⟨r0, r1⟩ := hp _ (prem_right ha hr)
          rw [tsz_fuel hpre n m s.right r0 (by omega) (by omega)]
      · rfl

theorem sumF_cases {own : RS → Int} {L : Int} {acc : List Int} {s : RS} : sumF own L acc s = if axB s = true then own s else if resB s = true then min (min (own s + getI acc s.left) (L + 1) + getI acc s.right) (L + 1) else min (own s + getI acc s.left) (L + 1) := by
  unfold sumF premL axB resB
  by_cases h : s.left < 0
  · simp [h]
  · by_cases h2 : s.right < 0
    · have : ¬ 0 ≤ s.right := by omega
      simp [h, h2, this]
    · have h3 : 0 ≤ s.right := by omega
      have h4 : 0 ≤ s.left := by omega
      simp [h, h2, h3, h4]
theorem sums_tsz {ss : List RS} (hpre : PreOk ss) : ∀ (k : Nat), k < ss.length → getI (sumL (fun _ => 1) 200 ss) (k : Int) = min (tsz ss (k + 1) (k : Int)) 201 := by
  intro k
  induction k using Nat.strongRecOn with
  | ind k ih =>
    intro hk
    have hs : ss[k]? = some ss[k] := List.getElem?_eq_getElem hk
    have hp := hpre k _ hs
    unfold sumL
    rw [getI_build _ ss hk (Nat.le_refl _) hs, sumF_cases, tsz, Int.toNat_natCast, hs]
    simp only []
    cases ha : axB ss[k]
    · obtain ⟨l0, l1⟩ := hp _ (prem_left ha)
      have hl := ih ss[k].left.toNat (by omega) (by omega)
      rw [Int.toNat_of_nonneg l0] at hl
      have hl2 : getI (buildTo (sumF (fun _ => 1) 200) ss k) ss[k].left = min (tsz ss k ss[k].left) 201 := by
        rw [getI_build_lt _ ss (Nat.le_of_lt hk) l0 l1, tsz_fuel hpre k (ss[k].left.toNat + 1) _ l0 l1 (by omega)]
        exact hl
      have hn1 := tsz_nonneg ss k ss[k].left
      rw [hl2]
      cases hr : resB ss[k]
      · simp only [Bool.false_eq_true, if_false]
        omega
      · obtain ⟨r0, r1⟩ := hp _ (prem_right ha hr)
        have hr' := ih ss[k].right.toNat (by omega) (by omega)
        rw [Int.toNat_of_nonneg r0] at hr'
        have hr2 : getI (buildTo (sumF (fun _ => 1) 200) ss k) ss[k].right = min (tsz ss k ss[k].right) 201 := by
          rw [getI_build_lt _ ss (Nat.le_of_lt hk) r0 r1, tsz_fuel hpre k (ss[k].right.toNat + 1) _ r0 r1 (by omega)]
          exact hr'
        have hn2 := tsz_nonneg ss k ss[k].right
        rw [hr2]
        simp only [Bool.false_eq_true, if_false, if_true]
        omega
    · simp only [if_true]
      omega
theorem last_tsz {ss : List RS} (hpre : PreOk ss) (hpos : 0 < ss.length) : ∃ x, (sumL (fun _ => 1) 200 ss)[(sumL (fun _ => 1) 200 ss).length - 1]? = some x ∧ x = min ((unfOf ss).length : Int) 201 := by
  have hl : (sumL (fun _ => 1) 200 ss).length = ss.length := buildTo_length _ _ _
  have h1 := sums_tsz hpre (ss.length - 1) (by omega)
  have h2 := unfL_tsz ss ss.length [] ((ss.length : Int) - 1)
  have h3 : (((ss.length - 1 : Nat) : Int)) = (ss.length : Int) - 1 := by omega
  rw [h3, show ss.length - 1 + 1 = ss.length by omega] at h1
  refine ⟨_, ?_, rfl⟩
  rw [hl]
  have := getI_some (l := sumL (fun _ => 1) 200 ss) (i := (ss.length : Int) - 1) (by omega) (by omega)
  rw [show ((ss.length : Int) - 1).toNat = ss.length - 1 by omega, h1] at this
  rw [this]
  unfold unfOf
  congr 2
  simp at h2
  omega

set_option maxRecDepth 100000 in
set_option maxHeartbeats 1000000 in
theorem UnfoldProof_any (v vs : Value) (f : CNF) (ss : List RS) (w : World) (hx : CnfV w v f) (hs : Steps w vs ss) :
    Calls Tryz.prog 7 #[v, vs] w (NewSt w (unfB f ss) (unfOf ss)) := by
  have hx0 := hx
  obtain ⟨cv, rfl, hl⟩ := hx
  obtain ⟨lb, lc, rfl, _, _, _⟩ := hl.open
  obtain ⟨sb, sc, rfl, hsc1, hsc2, _⟩ := hs.open
  cases ht : takesB f ss
  · have HUB := Lib.hid (show unfB f ss = false by simp [unfB, ht])
    go_enter Tryz.func7, Tryz.ntmps7
    go_wp2_with (go_at_call 39; refine (isProof_any _ _ f ss _ (hx0.ext (by repeat (first | exact Ext.refl _ | assumption | apply Ext.dn | apply Ext.drew | apply Ext.alloc))) (hs.ext (by repeat (first | exact Ext.refl _ | assumption | apply Ext.dn | apply Ext.drew | apply Ext.alloc)))).mono ?_; rw [ht]; rintro e w1 ⟨rfl, hd1⟩; obtain ⟨f0, f1, hE1⟩ := own2_cells hd1)
    go_ret2
    rw [HUB.out]
    exact ⟨_, rfl, (OwnS.nil w1 0).steps, hE1⟩
  · have HT := Lib.hid ht
    have hlen := takes_len ht
    have hpos := (takes_corr ht).1.1
    obtain ⟨x, hx1, hx2⟩ := last_tsz (takes_pre ht) hpos
    have HX := Lib.hid hx1
    have hsl : 0 < (sumL (fun _ => 1) 200 ss).length := by rw [sumL, buildTo_length]; exact hpos
    have HUO := Lib.hid (show unfL ss ss.length [] ((ss.length : Int) - 1) = unfOf ss from rfl)
    have HUB := Lib.hid (show unfB f ss = decide ((unfOf ss).length ≤ 200) by simp [unfB, ht])
    have eg : ∀ args w, (callFunc 42 args).run Tryz.prog w = .ok (.enter 42 args) w := fun args w => by kernel_rfl
    generalize unfOf ss = U at HUO HUB hx2 ⊢
    clear hx1
    by_cases hU : U.length ≤ 200
    · have hx3 : ¬ x > 200 := by omega
      clear hx2
      go_enter Tryz.func7, Tryz.ntmps7
      go_wp2_with (first
        | (go_at_call 39; refine (isProof_any _ _ f ss _ (hx0.ext (by repeat (first | exact Ext.refl _ | assumption | apply Ext.dn | apply Ext.drew | apply Ext.alloc))) (hs.ext (by repeat (first | exact Ext.refl _ | assumption | apply Ext.dn | apply Ext.drew | apply Ext.alloc)))).mono ?_; rw [ht]; rintro e w1 ⟨rfl, hd1⟩; obtain ⟨f0, f1, hE1⟩ := own2_cells hd1) | (go_at_call 41; refine (sums_any _ ss 200 _ (fun _ => 1) _ (hs.ext hE1) (takes_pre HT.out) (takes_len HT.out) (by omega) (by omega) (fun _ => ⟨by decide, by decide⟩) eg own_one).mono ?_; rintro e w2 ⟨r2, rfl, ho2, he2⟩; have hE2 := hE1.trans he2) | (go_at_call 40; refine (last_any _ _ x _ ho2.ints hsl HX.out).mono ?_; rintro e w3 ⟨rfl, rfl⟩)
        | (go_at_call 43; refine (unfold_any ss (takes_pre HT.out) (takes_clen HT.out) w2 _ (hs.ext hE2) w2.heap.size (Nat.le_refl _) hlen ss.length ((ss.length : Int) - 1) (by omega) (by omega) (by omega) _ [] _ (OwnS.nil _ _) (by rw [HUO.out]; omega) (Ext.refl _) (Nat.le_refl _)).mono ?_; rw [HUO.out]; rintro e w4 ⟨r4, o4, rfl, hR4, ho4, hg4, _⟩; obtain rfl := hR4; obtain ⟨rb4, rc4, rfl, _, _⟩ := ho4.form; have hE4 : Ext w w4 := ext_grown hE2 (OwnS.nil w2 w2.heap.size) hE2.size hg4))
      go_ret2
      have hb : unfB f ss = true := by rw [HUB.out]; simpa using hU
      rw [hb]
      exact ⟨_, rfl, ho4.steps, hE4⟩
    · have hx3 : x > 200 := by omega
      clear hx2
      go_enter Tryz.func7, Tryz.ntmps7
      go_wp2_with (first
        | (go_at_call 39; refine (isProof_any _ _ f ss _ (hx0.ext (by repeat (first | exact Ext.refl _ | assumption | apply Ext.dn | apply Ext.drew | apply Ext.alloc))) (hs.ext (by repeat (first | exact Ext.refl _ | assumption | apply Ext.dn | apply Ext.drew | apply Ext.alloc)))).mono ?_; rw [ht]; rintro e w1 ⟨rfl, hd1⟩; obtain ⟨f0, f1, hE1⟩ := own2_cells hd1) | (go_at_call 41; refine (sums_any _ ss 200 _ (fun _ => 1) _ (hs.ext hE1) (takes_pre HT.out) (takes_len HT.out) (by omega) (by omega) (fun _ => ⟨by decide, by decide⟩) eg own_one).mono ?_; rintro e w2 ⟨r2, rfl, ho2, he2⟩; have hE2 := hE1.trans he2) | (go_at_call 40; refine (last_any _ _ x _ ho2.ints hsl HX.out).mono ?_; rintro e w3 ⟨rfl, rfl⟩))
      go_ret2
      have hb : unfB f ss = false := by rw [HUB.out]; simpa using hU
      rw [hb]
      exact ⟨_, rfl, (OwnS.nil w2 0).steps, hE2⟩
end Go.Proofs.YtfnjhodologfeaaGreat
/- rSteps at one list -/
namespace Go.Proofs.YtfnjhodologfeaaGreat
open Go.RowKit

theorem eqB_self (xs : List Int) : eqB xs xs = true := by simp [eqB]

set_option maxRecDepth 100000 in
set_option maxHeartbeats 2000000 in
theorem rSteps_same (va vb : Value) (ss : List RS) (w : World) (hs : Steps w va ss) (hs2 : Steps w vb ss) :
    Calls Tryz.prog 9 #[va, vb] w (BoolE w true) := by
  obtain ⟨base, cap, rfl, hc1, hc2, hcell⟩ := hs.open
  obtain ⟨base2, cap2, rfl, hd1, hd2, hcell2⟩ := hs2.open
  go_enter Tryz.func9, Tryz.ntmps9
  go_wp2
  go_loopw [5] (fun i wr => ∃ k : Nat, k ≤ ss.length ∧ i = .int .i64 k ∧ Ext w wr) (fun i _ => ss.length - (intOf i).toNat)
  case atStart => exact ⟨0, Nat.zero_le _, rfl, .refl _⟩
  case round =>
    obtain ⟨k, hk, rfl, hext⟩ := hrel
    by_cases hlt : k < ss.length
    · obtain ⟨b, off, rfl, hb, hcs⟩ := hcell k hlt
      obtain ⟨s, u, hsk, hci⟩ := hcs k hlt
      obtain ⟨b2, off2, rfl, hb2, hcs2⟩ := hcell2 k hlt
      obtain ⟨s2, u2, hsk2, hci2⟩ := hcs2 k hlt
      obtain rfl : s = s2 := by rw [hsk] at hsk2; exact Option.some.inj hsk2
      obtain ⟨hu0, hu1, hu2, hu3, hcI⟩ := hci wr hext
      obtain ⟨hv0, hv1, hv2, hv3, hcI2⟩ := hci2 wr hext
      have hkl : (k : Int) < (ss.length : Int) := by omega
      have hq1 : (s.left != s.left) = false := by simp
      have hq2 : (s.right != s.right) = false := by simp
      have hq3 : (s.pivot != s.pivot) = false := by simp
      clear hcell hcell2 hcs hcs2 hci hci2 hsk hsk2
      go_wp2
      go_quiet ((go_at_call 12; exact Calls.quiet_of ((rInts_any _ _ s.clause s.clause _ (hcI.ext (Ext.drewN _ _)) (hcI2.ext (Ext.drewN _ _))).mono (fun _ _ h => ⟨h.1.trans (ret_bool (eqB_self _)), h.2⟩))))
      go_wp2
      exact ⟨⟨k + 1, by omega, by go_num, hext.trans (Ext.drewN _ _)⟩, by simp [intOf]; omega⟩
    · clear hcell hcell2
      go_wp2
      go_ret
      exact boolE rfl hext
end Go.Proofs.YtfnjhodologfeaaGreat
/-
  shelf contracts in plain words (slices.Sort, slices.Reverse), by lay-plain
-/
namespace Go.Proofs
open Go.Shelf
def Tryz.sortL_ren : Go.Shelf.Ren := ⟨fun | 189 => 92 | 125 => 123 | 257 => 122 | 128 => 153 | 129 => 154 | 294 => 144 | 295 => 145 | 296 => 146 | 297 => 147 | 298 => 148 | 299 => 149 | 216 => 150 | 300 => 151 | 301 => 152 | 328 => 170 | 329 => 171 | 330 => 172 | 331 => 173 | 332 => 174 | 215 => 175 | 343 => 182 | n => n, fun | 28 => 33 | 3 => 3 | 46 => 110 | 0 => 0 | 51 => 126 | 53 => 61 | 4 => 4 | 183 => 120 | 182 => 119 | 131 => 44 | 5 => 5 | 9 => 9 | 218 => 136 | 222 => 140 | 228 => 145 | 229 => 146 | n => n, fun | n => n⟩
theorem Tryz.sortL : Go.Proofs.Lays.n189 Tryz.prog Tryz.sortL_ren := {
  mixed := by kernel_rfl
  f125 := Tryz.func123.trans (congrArg some (by kernel_rfl))
  f128 := Tryz.func153.trans (congrArg some (by kernel_rfl))
  f129 := Tryz.func154.trans (congrArg some (by kernel_rfl))
  f189 := Tryz.func92.trans (congrArg some (by kernel_rfl))
  f215 := Tryz.func175.trans (congrArg some (by kernel_rfl))
  f216 := Tryz.func150.trans (congrArg some (by kernel_rfl))
  f257 := Tryz.func122.trans (congrArg some (by kernel_rfl))
  f294 := Tryz.func144.trans (congrArg some (by kernel_rfl))
  f295 := Tryz.func145.trans (congrArg some (by kernel_rfl))
  f296 := Tryz.func146.trans (congrArg some (by kernel_rfl))
  f297 := Tryz.func147.trans (congrArg some (by kernel_rfl))
  f298 := Tryz.func148.trans (congrArg some (by kernel_rfl))
  f299 := Tryz.func149.trans (congrArg some (by kernel_rfl))
  f300 := Tryz.func151.trans (congrArg some (by kernel_rfl))
  f301 := Tryz.func152.trans (congrArg some (by kernel_rfl))
  f328 := Tryz.func170.trans (congrArg some (by kernel_rfl))
  f329 := Tryz.func171.trans (congrArg some (by kernel_rfl))
  f330 := Tryz.func172.trans (congrArg some (by kernel_rfl))
  f331 := Tryz.func173.trans (congrArg some (by kernel_rfl))
  f332 := Tryz.func174.trans (congrArg some (by kernel_rfl))
  f343 := Tryz.func182.trans (congrArg some (by kernel_rfl))
  t0 := Tryz.underlying0
  a0 := Tryz.isAgg0
  z0 := Tryz.sizeOf0
  v0 := Tryz.zeroValue0
  t3 := Tryz.underlying3
  a3 := Tryz.isAgg3
  z3 := Tryz.sizeOf3
  v3 := Tryz.zeroValue3
  t4 := Tryz.underlying4
  a4 := Tryz.isAgg4
  z4 := Tryz.sizeOf4
  v4 := Tryz.zeroValue4
  t5 := Tryz.underlying5
  a5 := Tryz.isAgg5
  z5 := Tryz.sizeOf5
  v5 := Tryz.zeroValue5
  t9 := Tryz.underlying9
  a9 := Tryz.isAgg9
  z9 := Tryz.sizeOf9
  v9 := Tryz.zeroValue9
  t28 := Tryz.underlying33
  a28 := Tryz.isAgg33
  z28 := Tryz.sizeOf33
  v28 := Tryz.zeroValue33
  t46 := Tryz.underlying110
  a46 := Tryz.isAgg110
  z46 := Tryz.sizeOf110
  v46 := Tryz.zeroValue110
  t51 := Tryz.underlying126
  a51 := Tryz.isAgg126
  z51 := Tryz.sizeOf126
  v51 := Tryz.zeroValue126
  t53 := Tryz.underlying61
  a53 := Tryz.isAgg61
  z53 := Tryz.sizeOf61
  v53 := Tryz.zeroValue61
  t131 := Tryz.underlying44
  a131 := Tryz.isAgg44
  z131 := Tryz.sizeOf44
  v131 := Tryz.zeroValue44
  t182 := Tryz.underlying119
  a182 := Tryz.isAgg119
  z182 := Tryz.sizeOf119
  v182 := Tryz.zeroValue119
  t183 := Tryz.underlying120
  a183 := Tryz.isAgg120
  z183 := Tryz.sizeOf120
  v183 := Tryz.zeroValue120
  t218 := Tryz.underlying136
  a218 := Tryz.isAgg136
  z218 := Tryz.sizeOf136
  v218 := Tryz.zeroValue136
  t222 := Tryz.underlying140
  a222 := Tryz.isAgg140
  z222 := Tryz.sizeOf140
  v222 := Tryz.zeroValue140
  t228 := Tryz.underlying145
  a228 := Tryz.isAgg145
  z228 := Tryz.sizeOf145
  v228 := Tryz.zeroValue145
  t229 := Tryz.underlying146
  a229 := Tryz.isAgg146
  z229 := Tryz.sizeOf146
  v229 := Tryz.zeroValue146 }
def Tryz.reverseL_ren : Go.Shelf.Ren := ⟨fun | 112 => 104 | n => n, fun | 28 => 33 | 3 => 3 | 4 => 4 | 0 => 0 | n => n, fun | n => n⟩
theorem Tryz.reverseL : Go.Proofs.Lays.n112 Tryz.prog Tryz.reverseL_ren := {
  mixed := by kernel_rfl
  f112 := Tryz.func104.trans (congrArg some (by kernel_rfl))
  t0 := Tryz.underlying0
  a0 := Tryz.isAgg0
  z0 := Tryz.sizeOf0
  v0 := Tryz.zeroValue0
  t3 := Tryz.underlying3
  a3 := Tryz.isAgg3
  z3 := Tryz.sizeOf3
  v3 := Tryz.zeroValue3
  t4 := Tryz.underlying4
  a4 := Tryz.isAgg4
  z4 := Tryz.sizeOf4
  v4 := Tryz.zeroValue4
  t28 := Tryz.underlying33
  a28 := Tryz.isAgg33
  z28 := Tryz.sizeOf33
  v28 := Tryz.zeroValue33 }
end Go.Proofs
/- slices.Sort, Reverse at own rows; varsOf -/
namespace Go.Proofs.YtfnjhodologfeaaGreat
open Go.RowKit

def sortI (xs : List Int) : List Int := xs.mergeSort fun x y => decide (x ≤ y)
theorem sortI_len (xs : List Int) : (sortI xs).length = xs.length := List.length_mergeSort xs

set_option maxHeartbeats 1000000 in
theorem Sort_own (g cap B n : Nat) (xs : List Int) (hn : xs.length = n) (w : World) (h : OwnI w B (.slice (some ⟨g, 0, none⟩) n cap) xs) (hl : n ≤ 1000000000) (hg : g < w.heap.size) :
    Calls Tryz.prog 92 #[.slice (some ⟨g, 0, none⟩) n cap] w fun e w' =>
      e = .returned (.tuple #[]) ∧ w.grownBy w' (some g) ∧ OwnI w' B (.slice (some ⟨g, 0, none⟩) n cap) (sortI xs) := by
  subst hn
  refine Calls.mono (Any.slices_Sort_int Tryz.sortL g 0 cap xs w (h.holds encI xs.toArray rfl) hg (by omega)) ?_
  rintro e w2 ⟨rfl, m, os, rfl⟩
  have hs := h.sorted encI (sortI xs).toArray (ys := sortI xs) rfl (sortI_len xs) m os
  exact ⟨rfl, hs.2, hs.1⟩

set_option maxHeartbeats 1000000 in
theorem Reverse_own (g cap B n : Nat) (xs : List Int) (hn : xs.length = n) (w : World) (h : OwnI w B (.slice (some ⟨g, 0, none⟩) n cap) xs) (hl : n ≤ 1000000000) :
    Calls Tryz.prog 104 #[.slice (some ⟨g, 0, none⟩) n cap] w fun e w' =>
      e = .returned (.tuple #[]) ∧ w.grownBy w' (some g) ∧ OwnI w' B (.slice (some ⟨g, 0, none⟩) n cap) xs.reverse := by
  subst hn
  refine Calls.mono (Any.slices_Reverse_int Tryz.reverseL g 0 cap xs w (h.holds encI xs.toArray rfl) (by omega)) ?_
  rintro e w2 ⟨rfl, q, rfl⟩
  have hs := h.sorted encI xs.reverse.toArray (ys := xs.reverse) rfl (by simp) q #[]
  have hw2 : sortWorld encI w g 0 q xs.reverse.toArray #[] = Sort.putRow encI (Sort.ahead w q) g 0 xs.reverse.toArray := by
    unfold sortWorld; rw [Sort.grow_empty]
  rw [hw2] at hs
  exact ⟨rfl, hs.2, hs.1⟩

/-- the variables of some literals, ascending -/
def varsL (xs : List Int) : List Int := Lib.compact (sortI (xs.map absI))

set_option maxRecDepth 100000 in
set_option maxHeartbeats 2000000 in
theorem varsOf_any (v : Value) (l : List (List Int)) (w : World) (hx : Lists w v l) (hl : l.flatten.length ≤ 1000000) (hbd : BdI l.flatten) :
    Calls Tryz.prog 95 #[v] w (NewI w (varsL l.flatten)) := by
  have hle : ∀ k, (l.take k).flatten.length ≤ l.flatten.length := by
    intro k
    have := congrArg (fun z => z.flatten.length) (List.take_append_drop k l)
    simp only [List.flatten_append, List.length_append] at this
    omega
  have hstep : ∀ (k : Nat) xs, l[k]? = some xs → (l.take (k + 1)).flatten = (l.take k).flatten ++ xs := by
    intro k xs h
    rw [take_succ_at h]; simp
  have hbx : ∀ (k : Nat) xs, l[k]? = some xs → BdI xs := fun k xs h x hx => hbd x (List.mem_flatten.2 ⟨xs, List.mem_of_getElem? h, hx⟩)
  have HLE := Lib.hid hle
  have HST := Lib.hid hstep
  have HBX := Lib.hid hbx
  clear hle hstep hbx
  obtain ⟨base, cap, rfl, hc1, hc2, hcell⟩ := hx.open
  go_enter Tryz.func95, Tryz.ntmps95
  go_wp2
  go_loopw [3, 10] (fun o i wr => ∃ k : Nat, k ≤ l.length ∧ i = .int .i64 k ∧ OwnI wr w.heap.size o ((l.take k).flatten.map absI) ∧ Ext w wr) (fun _ i _ => l.length - (intOf i).toNat)
  case atStart => exact ⟨0, Nat.zero_le _, rfl, OwnI.nil _ _, .refl _⟩
  case round =>
    obtain ⟨k, hk, rfl, hown, hext⟩ := hrel
    by_cases hlt : k < l.length
    · obtain ⟨b, off, rfl, hb, hcs⟩ := hcell k hlt
      obtain ⟨xs, u, hxk, hci⟩ := hcs k hlt
      obtain ⟨hcu, hcI⟩ := hci wr hext
      obtain ⟨ub, uc, rfl, huc1, huc2, hucell⟩ := (hci w (.refl _)).2.open
      have h1 := HST.out k xs hxk
      have h3 := HLE.out (k + 1)
      rw [h1, List.length_append] at h3
      have HL2 := Lib.hid h1
      have hbk := HBX.out k xs hxk
      clear hcell hcs hci hxk h1
      generalize (l.take k).flatten = D at hown h3 HL2
      go_wp2
      go_loopw [3, 16] (fun o i wr' => ∃ j : Nat, j ≤ xs.length ∧ i = .int .i64 j ∧ OwnI wr' w.heap.size o ((D ++ xs.take j).map absI) ∧ Ext w wr') (fun _ i _ => xs.length - (intOf i).toNat)
      case atStart => exact ⟨0, Nat.zero_le _, rfl, by simpa using hown, hext⟩
      case round =>
        obtain ⟨j, hj, rfl, hown, hext⟩ := hrel
        by_cases hjl : j < xs.length
        · obtain ⟨ab, ao, rfl, _, hcs⟩ := hucell j hjl
          obtain ⟨x, hxj, hcx⟩ := hcs j hjl
          have hcc := hcx _ hext
          obtain ⟨x1, x2⟩ := hbk.at hxj
          have hax := absW_in x1 x2
          have HT := Lib.hid (show (D ++ xs.take (j + 1)).map absI = (D ++ xs.take j).map absI ++ [absW x] by rw [take_succ_at hxj, hax]; simp)
          have hlen : ((D ++ xs.take j).map absI).length ≤ 1000000 := by simp; omega
          clear hucell hcs hcx hxj hax
          generalize (D ++ xs.take j).map absI = M at hown HT hlen
          go_wp2_with (first
            | (go_at_call 124; refine (abs_any _ _).mono ?_; rintro e w' ⟨rfl, rfl⟩)
            | (at_builtin; refine wpList_appI rfl _ _ rfl w.heap.size _ _ M [absW x] rfl rfl (hown.alloc _) (ints_one _ _) (by simp; omega) (by have := hext.size; simp; omega) ?_; intro v' w4 ho4 hg4 _))
          exact ⟨⟨j + 1, by omega, by go_num, by rw [HT.out]; exact ho4, below_grown (hext.alloc _) (hown.alloc _) (hext.alloc _).size hg4⟩, by simp [intOf]; omega⟩
        · have hjP : xs.take j = xs := List.take_of_length_le (by omega)
          rw [hjP] at hown
          clear hucell
          go_wp2
          exact ⟨⟨k + 1, by omega, by go_num, by rw [HL2.out]; exact hown, hext⟩, by simp [intOf]; omega⟩
    · obtain rfl : k = l.length := by omega
      rw [List.take_length] at hown
      have hlen : (l.flatten.map absI).length ≤ 1000000 := by rw [List.length_map]; exact hl
      have HV := Lib.hid (show varsL l.flatten = Lib.compact (sortI (l.flatten.map absI)) from rfl)
      clear hcell
      generalize l.flatten.map absI = M at hown hlen HV
      rcases hown.form with ⟨rfl, rfl⟩ | ⟨g, oc, rfl, hoc1, hoc2, hg1, hg2⟩
      · go_wp2_with (first
          | (go_at_call 92; refine (Any.slices_Sort_int_none Tryz.sortL none 0 _).mono ?_; rintro e w2 ⟨rfl, rfl⟩)
          | (go_at_call 125; refine (Any.slices_Compact_int_empty Tryz.compactL none 0 _).mono ?_; rintro e w2 ⟨rfl, rfl⟩))
        go_ret
        have hnil : varsL l.flatten = [] := by rw [HV.out]; simp [sortI, Lib.compact, Lib.compactUpTo]
        rw [hnil]
        exact ⟨_, rfl, OwnI.nil _ _, hext⟩
      · have hsl := sortI_len M
        go_wp2_with (first
          | (go_at_call 92; refine (Sort_own g oc w.heap.size _ M rfl _ hown (by omega) hg2).mono ?_; rintro e w2 ⟨rfl, hgr2, ho2⟩; have hE2 : Ext w w2 := Below.grown hext hgr2 hext.size (fun k hk => by injection hk with hk; omega))
          | (go_at_call 125; refine (Compact_own g oc w.heap.size _ (sortI M) hsl _ ho2 (by omega) hoc1).mono ?_; rintro e w3 ⟨rfl, hgr3, ho3⟩; have hE3 : Ext w w3 := Below.grown hE2 hgr3 hE2.size (fun k hk => by injection hk with hk; omega)))
        go_ret
        exact ⟨_, rfl, by rw [HV.out]; exact ho3, hE3⟩
end Go.Proofs.YtfnjhodologfeaaGreat
/- own rows of lists of ints -/
namespace Go.Proofs.YtfnjhodologfeaaGreat
open Go.RowKit

/-- an own row of slices of ints -/
def OwnL (w : World) (B : Nat) (v : Value) (l : List (List Int)) : Prop :=
  ∃ cvs : List Value, cvs.length = l.length ∧ w.ownsRow B 33 1 v l.length cvs ∧ ∀ (i : Nat) (u : Value) (xs : List Int), cvs[i]? = some u → l[i]? = some xs → Ints w u xs
theorem OwnL.lists {w : World} {B : Nat} {v : Value} {l : List (List Int)} (h : OwnL w B v l) : Lists w v l := by
  obtain ⟨cvs, h1, h2, h3⟩ := h
  exact ⟨cvs, h1, own_sl h2, h3⟩
theorem OwnL.nil (w : World) (B : Nat) : OwnL w B (.slice none 0 0) [] := ⟨[], rfl, World.ownsRow_nil _ _ _ _, fun i u s h _ => (by simp at h)⟩
theorem OwnL.empty (w : World) (B : Nat) (hB : B ≤ w.heap.size) : OwnL (w.alloc (.cells #[] 33)) B (.slice (some ⟨w.heap.size, 0, none⟩) 0 0) [] :=
  ⟨[], rfl, World.ownsRow_lit w #[] 0 hB (by simp) rfl, fun i u s h _ => (by simp at h)⟩
theorem OwnL.ext {w w' : World} {B : Nat} {v : Value} {l : List (List Int)} (h : OwnL w B v l) (hx : Ext w w') : OwnL w' B v l := by
  obtain ⟨cvs, h1, h2, h3⟩ := h
  exact ⟨cvs, h1, own_ext h2 hx, fun i u s a b => (h3 i u s a b).ext hx⟩
theorem OwnL.mono {w : World} {B B' : Nat} {v : Value} {l : List (List Int)} (h : OwnL w B v l) (hB : B' ≤ B) : OwnL w B' v l := by
  obtain ⟨cvs, h1, h2, h3⟩ := h
  exact ⟨cvs, h1, own_mono h2 hB, h3⟩
theorem OwnL.lt {w : World} {B : Nat} {v : Value} {l : List (List Int)} (h : OwnL w B v l) : ∀ k, v.ownBlock = some k → B ≤ k ∧ k < w.heap.size := by
  obtain ⟨cvs, h1, h2, h3⟩ := h
  exact h2.lt
theorem OwnL.form {w : World} {B : Nat} {v : Value} {l : List (List Int)} (h : OwnL w B v l) : ∃ base cap, v = .slice base l.length cap ∧ l.length ≤ cap ∧ cap ≤ 9223372036854775807 := by
  obtain ⟨base, cap, h1, h2, h3, _⟩ := h.lists.open
  exact ⟨base, cap, h1, h2, h3⟩
theorem OwnL.type {w : World} {B : Nat} {v : Value} {l : List (List Int)} (h : OwnL w B v l) : ∀ b, v.ownBlock = some b → ∃ cur fz T, w.heap[b]? = some (.cells cur T fz) ∧ T ≠ 3 := by
  obtain ⟨cvs, _, h2, _⟩ := h
  intro b hb
  obtain ⟨cur, fz, h3⟩ := ownsRow_type h2 b hb
  exact ⟨cur, fz, _, h3, by decide⟩
theorem OwnL.at {w : World} {B g n cap : Nat} {l : List (List Int)} (h : OwnL w B (.slice (some ⟨g, 0, none⟩) n cap) l) (hn : n = l.length) {j : Nat} {xs : List Int} (hx : l[j]? = some xs) :
    ∃ u, w.cell? ⟨g, j, none⟩ = some u ∧ w.frozen? ⟨g, j, none⟩ = false ∧ Ints w u xs := by
  subst hn
  obtain ⟨cvs, h1, h2, h3⟩ := h
  obtain ⟨hj, rfl⟩ := List.getElem?_eq_some_iff.1 hx
  have hc : cvs[j]? = some (cvs[j]'(by omega)) := List.getElem?_eq_getElem (by omega)
  exact ⟨_, by rw [World.ownsRow.cellAt h2 j (by omega)]; exact hc, World.ownsRow.frozenAt h2 j, h3 j _ _ hc hx⟩
theorem OwnL.set {w : World} {B g n cap : Nat} {l : List (List Int)} (h : OwnL w B (.slice (some ⟨g, 0, none⟩) n cap) l) (hn : n = l.length) (j : Nat) {u : Value} {xs : List Int} (hu : Ints w u xs) :
    OwnL (w.setCell ⟨g, j, none⟩ u) B (.slice (some ⟨g, 0, none⟩) n cap) (l.set j xs) := by
  subst hn
  have hT := h.type
  obtain ⟨cvs, h1, h2, h3⟩ := h
  have hg := (World.ownsRow.stored h2 j u).2
  have hT2 : ∀ b, some g = some b → ∃ cur fz T, w.heap[b]? = some (.cells cur T fz) ∧ T ≠ 3 := fun b hb => hT b hb
  refine ⟨cvs.set j u, by simp [h1], ?_, ?_⟩
  · rw [List.length_set]; exact (World.ownsRow.stored h2 j u).1
  · intro i v ys hi hl
    rw [List.getElem?_set] at hi hl
    by_cases hij : j = i
    · subst hij
      rw [if_pos rfl] at hi hl
      split at hi
      · split at hl
        · injection hi with hi; injection hl with hl
          subst hi; subst hl
          exact hu.turned hg hT2
        · cases hl
      · cases hi
    · rw [if_neg hij] at hi hl
      exact (h3 i v ys hi hl).turned hg hT2
theorem wpList_makeL {w : World} {ops : Array Oper} {rest : List Oper} {o : Oper} {a : Act} {Q : Exit → Act → World → Prop} (hgd : o.guard = none) (l c : Operand)
    (ho : o.op = .makeSlice 24 l c) (n : Nat) (hl : a.eval l = .int .i64 (n : Int)) (hc : a.eval c = .int .i64 (n : Int)) (hn : n ≤ 109951162777)
    (h : ∀ w', OwnL w' w.heap.size (.slice (some ⟨w.heap.size, 0, none⟩) n n) (List.replicate n []) → Ext w w' → wpList Tryz.prog ops Q rest (a.put o.dst (.slice (some ⟨w.heap.size, 0, none⟩) n n)) w') : wpList Tryz.prog ops Q (o :: rest) a w := by
  obtain ⟨i, hi, hz0, hz1, hz2⟩ := info_parts Tryz.infoL
  refine wpList_make_full (P := Tryz.prog) w hgd l c 24 ho w.heap.size 33 i (.slice none 0 0) 1 Tryz.underlying24 hi hz0 hz1 .i64 .i64 n n n hl hc rfl rfl (by rw [hz2]; omega) (by simp only [maxLen]; omega) (Nat.le_refl _) fun w' ho' hg' => h w' ?_ ?_
  · refine ⟨List.replicate n (.slice none 0 0), by simp, ?_, ?_⟩
    · rw [List.length_replicate]
      have : (madeCells (Value.slice none 0 0).cells (n * 1)).toList = List.replicate n (Value.slice none 0 0) := by
        rw [Nat.mul_one]; exact toList_madeCells_one _ _
      rw [← this]
      exact ho'
    · intro j u xs hu hx
      rw [List.getElem?_replicate] at hu hx
      split at hu
      · injection hu with hu; subst hu
        rename_i hjn
        rw [if_pos hjn] at hx
        injection hx with hx; subst hx
        exact ints_nil _ _ _ (by omega)
      · cases hu
  · exact (Below.refl _ _).grown hg' (Nat.le_refl _) (fun k hk => by cases hk)
end Go.Proofs.YtfnjhodologfeaaGreat
