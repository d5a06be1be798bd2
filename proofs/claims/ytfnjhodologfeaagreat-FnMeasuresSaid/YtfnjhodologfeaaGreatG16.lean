/- Parts of the proof: C15, C16, C17. -/
import Derived.Test.YtfnjhodologfeaaGreatG15
set_option linter.unusedSimpArgs false
set_option linter.unusedVariables false
/- stepPivots -/
namespace Go.Proofs.YtfnjhodologfeaaGreat
open Go.RowKit

def getL (l : List (List Int)) (i : Int) : List Int := l.getD i.toNat []
/-- the pivots at and below a step, before they are sorted -/
def pivAll (acc : List (List Int)) (s : RS) : List Int := (premL s).flatMap (getL acc) ++ (if resB s then [s.pivot] else [])
def pivTo (ss : List RS) : Nat → List (List Int)
  | 0 => []
  | k + 1 => pivTo ss k ++ [match ss[k]? with | some s => varsL (pivAll (pivTo ss k) s) | none => []]
theorem pivTo_length (ss : List RS) (k : Nat) : (pivTo ss k).length = k := by
  induction k with
  | zero => rfl
  | succ k ih => simp [pivTo, ih]
theorem pivTo_succ {ss : List RS} {k : Nat} {s : RS} (h : ss[k]? = some s) : pivTo ss (k + 1) = pivTo ss k ++ [varsL (pivAll (pivTo ss k) s)] := by
  simp [pivTo, h]
def PivOk (ss : List RS) : Prop := ∀ s ∈ ss, resB s = true → 1 ≤ s.pivot ∧ s.pivot ≤ 12

theorem varsL_spec {xs : List Int} (h : ∀ x ∈ xs, 0 ≤ x) : SA (varsL xs) ∧ ∀ x, x ∈ varsL xs ↔ x ∈ xs := by
  have hmap : xs.map absI = xs := by
    conv => rhs; rw [← List.map_id xs]
    apply List.map_congr_left
    intro x hx
    have := h x hx
    show absI x = x
    unfold absI
    rw [if_neg (by omega)]
  have hm : ∀ x, x ∈ sortI xs ↔ x ∈ xs := fun x => List.mem_mergeSort
  have hs : (sortI xs).Pairwise fun x y => decide (x ≤ y) = true := List.pairwise_mergeSort (fun a b c h1 h2 => by simp at h1 h2 ⊢; omega) (fun a b => by simp; omega) xs
  unfold varsL
  rw [hmap]
  obtain ⟨h1, h2⟩ := compact_strict (sortI xs) (fun i j hij hj => by
    have e1 : (sortI xs).toArray[j]! = (sortI xs)[j] := by rw [getElem!_pos _ j (by simpa using hj)]; simp
    have e2 : (sortI xs).toArray[i]! = (sortI xs)[i]'(by omega) := by rw [getElem!_pos _ i (by simpa using (by omega : i < (sortI xs).length))]; simp
    rw [e1, e2]
    have h3 := List.pairwise_iff_getElem.1 hs i j (by omega) hj hij
    have h4 := h _ ((hm _).1 (List.getElem_mem (l := sortI xs) (n := i) (by omega)))
    have h5 := h _ ((hm _).1 (List.getElem_mem (l := sortI xs) (n := j) hj))
    simp only [decide_eq_true_eq] at h3
    rw [Bool.eq_false_iff, ne_eq, ltL_iff]
    unfold absI
    rw [if_neg (by omega), if_neg (by omega)]
    omega)
  refine ⟨?_, fun x => (h2 x).trans (hm x)⟩
  refine List.Pairwise.imp_of_mem ?_ h1
  intro a b ha hb hab
  rw [ltL_iff] at hab
  have ha' := h a ((hm a).1 ((h2 a).1 ha))
  have hb' := h b ((hm b).1 ((h2 b).1 hb))
  rcases hab with h | ⟨h, h'⟩
  · exact h
  · unfold absI at h
    rw [if_neg (by omega), if_neg (by omega)] at h
    omega
theorem sa_len {zs : List Int} (h : SA zs) {M : Nat} (hb : ∀ x ∈ zs, 1 ≤ x ∧ x ≤ (M : Int)) : zs.length ≤ M := by
  have key : ∀ j (hj : j < zs.length), (j : Int) + 1 ≤ zs[j] := by
    intro j
    induction j with
    | zero => intro hj; have := hb _ (List.getElem_mem hj); omega
    | succ j ih =>
      intro hj
      have h1 := ih (by omega)
      have h2 := List.pairwise_iff_getElem.1 h j (j + 1) (by omega) hj (by omega)
      have h3 := hb _ (List.getElem_mem hj)
      unfold absI at h2
      rw [if_neg (by omega), if_neg (by omega)] at h2
      omega
  rcases Nat.eq_zero_or_pos zs.length with h0 | h0
  · omega
  · have h1 := key (zs.length - 1) (by omega)
    have h2 := hb _ (List.getElem_mem (l := zs) (n := zs.length - 1) (by omega))
    omega
theorem getL_mem {l : List (List Int)} {i : Int} (h0 : 0 ≤ i) (h1 : i < l.length) : l[i.toNat]? = some (getL l i) := by
  unfold getL List.getD
  rw [List.getElem?_eq_getElem (show i.toNat < l.length by omega)]
  simp
/-- what is in the lists of pivots -/
def PivB (l : List (List Int)) : Prop := ∀ zs ∈ l, zs.length ≤ 12 ∧ ∀ x ∈ zs, 1 ≤ x ∧ x ≤ 12
theorem pivAll_bd {acc : List (List Int)} {s : RS} (hacc : PivB acc) (hp : ∀ p ∈ premL s, 0 ≤ p ∧ p < acc.length) (hs : resB s = true → 1 ≤ s.pivot ∧ s.pivot ≤ 12) : ∀ x ∈ pivAll acc s, 1 ≤ x ∧ x ≤ 12 := by
  intro x hx
  rcases List.mem_append.1 hx with h | h
  · obtain ⟨p, hpm, hxp⟩ := List.mem_flatMap.1 h
    obtain ⟨h0, h1⟩ := hp p hpm
    exact (hacc _ (List.mem_of_getElem? (getL_mem h0 h1))).2 x hxp
  · split at h
    · rename_i hr
      simp only [List.mem_singleton] at h
      subst h
      exact hs hr
    · simp at h
theorem pivTo_bd {ss : List RS} (hpre : PreOk ss) (hpv : PivOk ss) : ∀ k, k ≤ ss.length → PivB (pivTo ss k) := by
  intro k
  induction k with
  | zero => intro _ zs hz; simp [pivTo] at hz
  | succ k ih =>
    intro hk zs hz
    have hsk : ss[k]? = some (ss[k]'(by omega)) := List.getElem?_eq_getElem (by omega)
    rw [pivTo_succ hsk] at hz
    rcases List.mem_append.1 hz with h | h
    · exact ih (by omega) zs h
    · simp only [List.mem_singleton] at h
      subst h
      have hall := pivAll_bd (ih (by omega)) (fun p hp => by
        have := hpre k _ hsk p hp
        rw [pivTo_length]; exact this) (hpv _ (List.getElem_mem (by omega)))
      obtain ⟨h1, h2⟩ := varsL_spec (fun x hx => by have := hall x hx; omega)
      have hb : ∀ x ∈ varsL (pivAll (pivTo ss k) ss[k]), 1 ≤ x ∧ x ≤ 12 := fun x hx => hall x ((h2 x).1 hx)
      exact ⟨sa_len h1 (M := 12) (fun x hx => by have := hb x hx; omega), hb⟩
theorem lists_one {w : World} {u1 : Value} {xs : List Int} (h1 : Ints w u1 xs) : Lists (w.alloc (.cells #[u1] 33)) (.slice (some ⟨w.heap.size, 0, none⟩) 1 1) [xs] := by
  have hx : Ext w (w.alloc (.cells #[u1] 33)) := (by repeat (first | exact Ext.refl _ | assumption | apply Ext.dn | apply Ext.drew | apply Ext.alloc))
  refine ⟨[u1], rfl, own_sl (World.ownsRow_lit (base := w.heap.size) (size := 1) w #[u1] 1 (Nat.le_refl _) (by simp [maxLen]) rfl), ?_⟩
  intro i u zs hi hz
  match i, hi, hz with
  | 0, hi, hz => simp only [List.getElem?_cons_zero, Option.some.injEq] at hi hz; subst hi; subst hz; exact h1.ext hx
  | n + 1, hi, hz => simp at hi
end Go.Proofs.YtfnjhodologfeaaGreat
/- stepPivots, the walk -/
namespace Go.Proofs.YtfnjhodologfeaaGreat
open Go.RowKit

theorem set_midL {acc rest : List (List Int)} {k : Nat} (h : acc.length = k) (v x : List Int) : (acc ++ v :: rest).set k x = acc ++ x :: rest := by
  subst h
  simp [List.set_append]
theorem aheadL {acc rest : List (List Int)} {k : Nat} {p : Int} (h : acc.length = k) (h0 : 0 ≤ p) (hp : p < (k : Int)) (v : List Int) : (acc ++ v :: rest)[p.toNat]? = some (getL acc p) := by
  subst h
  rw [List.getElem?_append_left (by omega)]
  exact getL_mem h0 hp
theorem flat_len {acc : List (List Int)} (h : PivB acc) : ∀ (P : List Int), (∀ p ∈ P, 0 ≤ p ∧ p < acc.length) → (P.flatMap (getL acc)).length ≤ 12 * P.length
  | [], _ => by simp
  | p :: P, hP => by
    have h1 := flat_len h P (fun q hq => hP q (by simp [hq]))
    obtain ⟨h0, h2⟩ := hP p (by simp)
    have h3 := (h _ (List.mem_of_getElem? (getL_mem h0 h2))).1
    simp only [List.flatMap_cons, List.length_append, List.length_cons]
    omega
theorem aheadL0 {acc rest : List (List Int)} {k : Nat} (h : acc.length = k) : (acc ++ ([] : List Int) :: rest)[k]? = some [] := by
  subst h
  simp
def NewLs (w : World) (l : List (List Int)) (e : Ending) (w' : World) : Prop := ∃ r, e = .returned r ∧ OwnL w' w.heap.size r l ∧ Ext w w'

set_option maxRecDepth 100000 in
set_option maxHeartbeats 2000000 in
theorem stepPivots_any (vs : Value) (ss : List RS) (w : World) (hs : Steps w vs ss) (hpre : PreOk ss) (hpv : PivOk ss) (hn : ss.length ≤ 100000) :
    Calls Tryz.prog 57 #[vs] w (NewLs w (pivTo ss ss.length)) := by
  obtain ⟨base, cap, rfl, hc1, hc2, hcell⟩ := hs.open
  have HBD := Lib.hid (pivTo_bd hpre hpv)
  have HPR := Lib.hid hpre
  have HPV := Lib.hid hpv
  clear hpre hpv
  go_enter Tryz.func57, Tryz.ntmps57
  go_wp2_with (at_make; refine wpList_makeL rfl _ _ rfl ss.length rfl rfl (by omega) ?_; intro w1 ho1 he1)
  go_loopw [14] (fun i wr => ∃ k : Nat, k ≤ ss.length ∧ i = .int .i64 k ∧ OwnL wr w.heap.size (.slice (some ⟨w.heap.size, 0, none⟩) ss.length ss.length) (pivTo ss k ++ List.replicate (ss.length - k) []) ∧ Ext w wr) (fun i _ => ss.length - (intOf i).toNat)
  case atStart => exact ⟨0, Nat.zero_le _, rfl, by simpa [pivTo] using ho1, he1⟩
  case round =>
    obtain ⟨k, hk, rfl, hown, hext⟩ := hrel
    by_cases hlt : k < ss.length
    · obtain ⟨b, off, rfl, hb, hcs⟩ := hcell k hlt
      obtain ⟨s, u, hsk, hci⟩ := hcs k hlt
      obtain ⟨hu0, hu1, hu2, hu3, hcI⟩ := hci wr hext
      obtain ⟨ub, uc, rfl, _, _, _⟩ := hcI.open
      have hSV : ∀ w', Ext w w' → StepV w' (.agg #[.slice ub s.clause.length uc, .int .i64 s.left, .int .i64 s.right, .int .i64 s.pivot]) s := fun w' h => ⟨_, rfl, (hci _ h).2.2.2.2⟩
      have HPk := Lib.hid (HPR.out k s hsk)
      have hal := pivTo_length ss k
      have hab := HBD.out k hk
      generalize hacc : pivTo ss k = acc at hown hal hab
      obtain ⟨m, hm⟩ : ∃ m, ss.length = k + 1 + m := ⟨ss.length - k - 1, by omega⟩
      have hrp : List.replicate (ss.length - k) ([] : List Int) = [] :: List.replicate m [] := by rw [show ss.length - k = m + 1 by omega]; rfl
      rw [hrp] at hown
      clear hrp
      have HBS := Lib.hid (show pivTo ss (k + 1) ++ List.replicate (ss.length - (k + 1)) [] = acc ++ varsL (pivAll acc s) :: List.replicate m [] by
        rw [pivTo_succ hsk, hacc, show ss.length - (k + 1) = m by omega]; simp)
      have hln : (acc ++ ([] : List Int) :: List.replicate m []).length = ss.length := by simp; omega
      have hallb := pivAll_bd hab (fun p hp => by have := HPk.out p hp; rw [hal]; exact this) (HPV.out s (List.mem_of_getElem? hsk))
      have hbdA : BdI (pivAll acc s) := fun x hx => by have := hallb x hx; omega
      have HAB := Lib.hid hab
      have hpl := premL_len s
      clear hcell hcs hci hsk hacc hm hallb hab
      go_wp2_with (first | (go_at_call 78; refine (premises_any _ s _ (hSV _ (by repeat (first | exact Ext.refl _ | assumption | apply Ext.dn | apply Ext.drew | apply Ext.alloc)))).mono ?_; rintro e w2 ⟨r2, rfl, ho2, he2⟩; obtain ⟨f0, f1, f2, f3, hE2⟩ := own4_cells he2; obtain ⟨rb, rc, rfl, hrc1, hrc2, hrcell⟩ := ho2.ints.open))
      replace hown := hown.ext hE2
      have hext2 := hext.trans hE2
      have hwb : w.heap.size ≤ w2.heap.size := hext2.size
      have HPA := Lib.hid (show pivAll acc s = (premL s).flatMap (getL acc) ++ (if resB s then [s.pivot] else []) from rfl)
      clear hext ho2 he2 hE2
      generalize hPP : premL s = P at HPk hpl hrc1 hrcell HPA ⊢
      have HPk' := Lib.hid (show ∀ p ∈ P, 0 ≤ p ∧ p < (acc.length : Int) from fun p hp => by have := HPk.out p hp; omega)
      clear hPP
      have HFL := Lib.hid (fun j => flat_len HAB.out (P.take j) (fun p hp => HPk'.out p (List.mem_of_mem_take hp)))
      go_loopw [6, 22] (fun o i wr' => ∃ j : Nat, j ≤ P.length ∧ i = .int .i64 j ∧ OwnI wr' w2.heap.size o ((P.take j).flatMap (getL acc)) ∧ Ext w2 wr') (fun _ i _ => P.length - (intOf i).toNat)
      case atStart => exact ⟨0, Nat.zero_le _, rfl, OwnI.nil _ _, .refl _⟩
      case round =>
        obtain ⟨j, hj, rfl, ho, hE⟩ := hrel
        have hxr := hext2.trans hE
        have hlj := HFL.out j
        have hlj2 : (P.take j).length ≤ 2 := by simp; omega
        by_cases hjl : j < P.length
        · obtain ⟨gb, go, rfl, _, hri⟩ := hrcell j hjl
          obtain ⟨p, hpj, hpc⟩ := hri j hjl
          have hpc' := hpc _ hE
          have hpm := List.mem_of_getElem? hpj
          obtain ⟨hp0, hp1⟩ := HPk.out p hpm
          obtain ⟨u6, hc6, _, hi6⟩ := (hown.ext hE).at hln.symm (aheadL hal hp0 hp1 _)
          obtain ⟨pb, pc, rfl, _, _, _⟩ := hi6.open
          have hg6 := (HAB.out _ (List.mem_of_getElem? (getL_mem (HPk'.out p hpm).1 (HPk'.out p hpm).2))).1
          have hpn : p < (ss.length : Int) := by omega
          have HT := Lib.hid (show (P.take (j + 1)).flatMap (getL acc) = (P.take j).flatMap (getL acc) ++ getL acc p by rw [take_succ_at hpj]; simp)
          clear hrcell hri hpc hpj hpm
          generalize (P.take j).flatMap (getL acc) = D at ho hlj HT
          go_wp2_with (at_builtin; refine wpList_appI rfl _ _ rfl w2.heap.size _ _ D (getL acc p) rfl rfl ho hi6 (by omega) hE.size ?_; intro v' w4 ho4 hg4 _)
          exact ⟨⟨j + 1, by omega, by go_num, by rw [HT.out]; exact ho4, below_grown hE ho hE.size hg4⟩, by simp [intOf]; omega⟩
        · have hjP : P.take j = P := List.take_of_length_le (by omega)
          rw [hjP] at ho hlj hlj2
          replace f0 := hE.cell f0
          replace f1 := hE.cell f1
          replace f2 := hE.cell f2
          replace f3 := hE.cell f3
          clear hrcell
          obtain ⟨ab, ac, hoe, _, _, _⟩ := ho.ints.open
          subst hoe
          generalize P.flatMap (getL acc) = D at ho hlj HPA
          cases hr : resB s
          · have hDA : D = pivAll acc s := by rw [HPA.out, hr]; simp
            clear HPA
            subst hDA
            go_wp2_with (first | (go_at_call 58; refine (isResolvent_any _ s _ (hSV _ hxr)).mono ?_; rw [hr]; rintro e w3 ⟨rfl, he3⟩; replace hE := hE.trans he3; replace hxr := hxr.trans he3; replace ho := ho.ext he3; replace f3 := he3.cell f3) | (go_at_call 95; go_loud (refine (varsOf_any _ [pivAll acc s] _ (lists_one ho.ints) (by rw [show [pivAll acc s].flatten = pivAll acc s by simp]; omega) (by rw [show [pivAll acc s].flatten = pivAll acc s by simp]; exact hbdA)).mono ?_); rw [show [pivAll acc s].flatten = pivAll acc s by simp]; rintro e w5 ⟨r5, rfl, ho5, he5⟩; obtain ⟨vb, vc, rfl, _, _, _⟩ := ho5.ints.open; have hE5 : Ext w2 w5 := hE.trans (Ext.trans (by repeat (first | exact Ext.refl _ | assumption | apply Ext.dn | apply Ext.drew | apply Ext.alloc)) he5); have hO5 := hown.ext hE5; have hx5 := hext2.trans hE5; obtain ⟨q0, q1, q2, q3⟩ := hO5.at hln.symm (aheadL0 hal)))
            refine ⟨⟨k + 1, by omega, by go_num, ?_, hx5.setCell (Nat.le_refl _) _⟩, by simp [intOf]; omega⟩
            rw [HBS.out, ← set_midL hal [] (varsL (pivAll acc s))]
            exact hO5.set hln.symm k ho5.ints
          · have HDA := Lib.hid (show D ++ [s.pivot] = pivAll acc s by rw [HPA.out, hr]; simp)
            have hpl4 : (pivAll acc s).length ≤ 1000 := by rw [← HDA.out]; simp; omega
            clear HPA
            go_wp2_with (first
              | (go_at_call 58; refine (isResolvent_any _ s _ (hSV _ hxr)).mono ?_; rw [hr]; rintro e w3 ⟨rfl, he3⟩; replace hE := hE.trans he3; replace hxr := hxr.trans he3; replace ho := ho.ext he3; replace f3 := he3.cell f3) | (go_at_call 95; go_loud (refine (varsOf_any _ [pivAll acc s] _ (lists_one ho.ints) (by rw [show [pivAll acc s].flatten = pivAll acc s by simp]; omega) (by rw [show [pivAll acc s].flatten = pivAll acc s by simp]; exact hbdA)).mono ?_); rw [show [pivAll acc s].flatten = pivAll acc s by simp]; rintro e w5 ⟨r5, rfl, ho5, he5⟩; obtain ⟨vb, vc, rfl, _, _, _⟩ := ho5.ints.open; have hE5 : Ext w2 w5 := hE.trans (Ext.trans (by repeat (first | exact Ext.refl _ | assumption | apply Ext.dn | apply Ext.drew | apply Ext.alloc)) he5); have hO5 := hown.ext hE5; have hx5 := hext2.trans hE5; obtain ⟨q0, q1, q2, q3⟩ := hO5.at hln.symm (aheadL0 hal))
              | (at_builtin; refine wpList_appI rfl _ _ rfl w2.heap.size (.slice ab D.length ac) _ D [s.pivot] rfl rfl (ho.alloc _) (ints_one _ _) (by simp; omega) (by have := hE.size; simp; omega) ?_; intro v' w4 ho4 hg4 _; replace hE : Ext w2 w4 := below_grown (hE.alloc _) (ho.alloc _) (hE.alloc _).size hg4; rw [HDA.out] at ho4; replace ho := ho4; obtain ⟨ab4, ac4, hoe, _, _, _⟩ := ho.ints.open; subst hoe))
            refine ⟨⟨k + 1, by omega, by go_num, ?_, hx5.setCell (Nat.le_refl _) _⟩, by simp [intOf]; omega⟩
            rw [HBS.out, ← set_midL hal [] (varsL (pivAll acc s))]
            exact hO5.set hln.symm k ho5.ints
    · obtain rfl : k = ss.length := by omega
      clear hcell
      go_wp2
      go_ret
      refine ⟨_, rfl, ?_, hext⟩
      rw [Nat.sub_self, List.replicate_zero, List.append_nil] at hown
      exact hown
end Go.Proofs.YtfnjhodologfeaaGreat
/- firstIrregular, given neededSteps -/
namespace Go.Proofs.YtfnjhodologfeaaGreat
open Go.RowKit

/-- m steps seen from the last one on: those that are needed (descending), and the premises of these -/
def needAcc (ss : List RS) : Nat → List Int × List Int
  | 0 => ([], [])
  | m + 1 => match ss[ss.length - 1 - m]? with
    | none => needAcc ss m
    | some s => if m = 0 ∨ ((ss.length - 1 - m : Nat) : Int) ∈ (needAcc ss m).2 then ((needAcc ss m).1 ++ [((ss.length - 1 - m : Nat) : Int)], (needAcc ss m).2 ++ premL s) else needAcc ss m
def needL (ss : List RS) : List Int := (needAcc ss ss.length).1.reverse
theorem needAcc_bd (ss : List RS) : ∀ m, ∀ x ∈ (needAcc ss m).1, 0 ≤ x ∧ x < (ss.length : Int)
  | 0, x, h => by simp [needAcc] at h
  | m + 1, x, h => by
    have ih := needAcc_bd ss m
    rw [needAcc] at h
    split at h
    · exact ih x h
    · rename_i s hs
      have := (List.getElem?_eq_some_iff.1 hs).1
      split at h
      · rcases List.mem_append.1 h with h | h
        · exact ih x h
        · simp only [List.mem_singleton] at h
          omega
      · exact ih x h
theorem needAcc_len (ss : List RS) : ∀ m, (needAcc ss m).1.length ≤ m
  | 0 => by simp [needAcc]
  | m + 1 => by
    have ih := needAcc_len ss m
    rw [needAcc]
    split
    · omega
    · split
      · simp; omega
      · omega
theorem needL_bd (ss : List RS) : ∀ x ∈ needL ss, 0 ≤ x ∧ x < (ss.length : Int) := fun x hx => needAcc_bd ss _ x (by simpa [needL] using hx)

def NeededSaid : Prop := ∀ (vs : Value) (ss : List RS) (w : World), Steps w vs ss → PreOk ss → ss.length ≤ 100000 → Calls Tryz.prog 74 #[vs] w (NewI w (needL ss))

def irrS (piv : List (List Int)) (s : RS) : Bool := resB s && (hasB (getL piv s.left) s.pivot || hasB (getL piv s.right) s.pivot)
def irrB (ss : List RS) (i : Int) : Bool := match ss[i.toNat]? with | some s => irrS (pivTo ss ss.length) s | none => false
def regB (ss : List RS) : Bool := (needL ss).all fun i => !irrB ss i

theorem takes_piv {f : CNF} {ss : List RS} (h : takesB f ss = true) : PivOk ss := by
  intro s hs hr
  obtain ⟨k, hk, rfl⟩ := List.mem_iff_getElem.1 hs
  obtain ⟨⟨_, _, hg⟩, h2⟩ := takes_corr h
  have h3 := h2 k hk
  have hv : f.vars ≤ 12 := by
    have hc := takes_cl h _ hs
    simp only [clauseB, Bool.and_eq_true] at hc
    have := hc.1
    simp [inB] at this
    omega
  simp only [correctB, List.getElem?_eq_getElem hk] at h3
  unfold correctAt at h3
  simp only [resB, Bool.and_eq_true, decide_eq_true_eq] at hr
  split at h3
  · cases h3
  · split at h3
    · rename_i h4
      simp at h4
      omega
    · split at h3
      · cases h3
      · split at h3
        · rename_i h4
          simp at h4
          omega
        · split at h3
          · cases h3
          · rename_i h4
            have h5 : inB ss[k].pivot 1 f.vars = true := by
              cases h6 : inB ss[k].pivot 1 f.vars with
              | true => rfl
              | false => exact absurd (.inr h6) h4
            simp [inB] at h5
            omega
end Go.Proofs.YtfnjhodologfeaaGreat
