/- Parts of the proof: B10, B11, K1, C2. -/
import Derived.Test.YtfnjhodologfeaaGreatG08
import Derived.Test.YtfnjhodologfeaaGreatG07
set_option linter.unusedSimpArgs false
set_option linter.unusedVariables false
/- slices.Compact; clause; resolve -/
namespace Go.Proofs.YtfnjhodologfeaaGreat
open Go.RowKit

theorem compact_len (ys : List Int) : (Lib.compact ys).length ≤ ys.length := by
  unfold Lib.compact Lib.compactUpTo
  rw [List.length_map]
  have := List.length_filter_le (Lib.keeps ys.toArray) (List.range ys.length)
  simpa using this

set_option maxHeartbeats 1000000 in
theorem Compact_own (g cap B n : Nat) (ys : List Int) (hn : ys.length = n) (w : World) (h : OwnI w B (.slice (some ⟨g, 0, none⟩) n cap) ys) (hl : n ≤ 1000000000) (hc : n ≤ cap) :
    Calls Tryz.prog 125 #[.slice (some ⟨g, 0, none⟩) n cap] w fun e w' =>
      e = .returned (.slice (some ⟨g, 0, none⟩) (Lib.compact ys).length cap) ∧ w.grownBy w' (some g) ∧ OwnI w' B (.slice (some ⟨g, 0, none⟩) (Lib.compact ys).length cap) (Lib.compact ys) := by
  subst hn
  have hcontract := Any.slices_Compact_int Tryz.compactL g 0 cap ys w (h.holds encI ys.toArray rfl) (by omega) hc
  refine Calls.mono hcontract ?_
  rintro e w2 ⟨rfl, q, rfl⟩
  have hle : (Lib.compact ys).length ≤ ys.length := compact_len ys
  generalize Lib.compact ys = zs at hle ⊢
  have hs := h.sorted encI (zs ++ List.replicate (ys.length - zs.length) 0).toArray (ys := zs ++ List.replicate (ys.length - zs.length) 0) rfl (by simp; omega) q #[]
  have hw2 : sortWorld encI w g 0 q (zs ++ List.replicate (ys.length - zs.length) 0).toArray #[] = Sort.putRow encI (Sort.ahead w q) g 0 (zs ++ List.replicate (ys.length - zs.length) 0).toArray := by
    unfold sortWorld; rw [Sort.grow_empty]
  rw [hw2] at hs
  obtain ⟨hs1, hs2⟩ := hs
  have hcut := hs1.cut (by simp; omega) (k := zs.length) (by simp)
  rw [List.take_left] at hcut
  exact ⟨rfl, hs2, hcut⟩

/-- what 'clause' computes: some strictly ascending list of the same members -/
def ClauseO (w : World) (xs : List Int) (e : Ending) (w' : World) : Prop :=
  ∃ r zs, e = .returned (.tuple #[r, .bool (clauseO zs).isSome]) ∧ SL zs ∧ (∀ x, x ∈ zs ↔ x ∈ xs) ∧ (∀ d, clauseO zs = some d → OwnI w' w.heap.size r d) ∧ Ext w w'

set_option maxRecDepth 100000 in
set_option maxHeartbeats 1000000 in
theorem clause_any (v : Value) (xs : List Int) (w : World) (hx : Ints w v xs) (hl : xs.length ≤ 1000000000) (hbd : BdI xs) :
    Calls Tryz.prog 177 #[v] w (ClauseO w xs) := by
  go_enter Tryz.func177, Tryz.ntmps177
  go_wp2_with (go_at_call 79; refine (Clone_any _ xs _ hx hl).mono ?_; rintro e w1 ⟨r1, rfl, ho1, he1⟩)
  rcases ho1.form with ⟨rfl, rfl⟩ | ⟨g, cap, rfl, hcap1, hcap2, hg1, hg2⟩
  · refine (AnyF.slices_SortFunc_none { Tryz.sortFuncL with } none 0 _ _).mono ?_
    rintro e w2 ⟨rfl, rfl⟩
    go_wp2_with (go_at_call 125; refine (Any.slices_Compact_int_empty Tryz.compactL none 0 _).mono ?_; rintro e w2 ⟨rfl, rfl⟩)
    go_wp2
    go_rounds 1
    go_ret2
    exact ⟨_, [], rfl, List.Pairwise.nil, fun x => Iff.rfl, fun d h => (by injection h with h; subst h; exact OwnI.nil _ _), he1⟩
  · refine (SortFunc_lits g cap w.heap.size xs w1 ho1 hbd hl hg2).mono ?_
    rintro e w2 ⟨rfl, ys, hy1, hy2, hy3, hgr2, ho2⟩
    have hE2 : Ext w w2 := Below.grown he1 hgr2 he1.size (fun k hk => by injection hk with hk; omega)
    obtain ⟨hc1, hc2⟩ := compact_strict ys hy3
    have HC1 := Lib.hid hc1
    have HC2 := Lib.hid hc2
    have hgb : w.heap.size ≤ g := hg1
    clear hc1 hc2 hy3 hgr2 ho1 he1 hcap2 hg2
    go_wp2_with (go_at_call 125; refine (Compact_own g cap w.heap.size _ ys hy1 w2 ho2 hl hcap1).mono ?_; rintro e w3 ⟨rfl, hgr3, ho3⟩)
    have hE3 : Ext w w3 := Below.grown hE2 hgr3 hE2.size (fun k hk => by injection hk with hk; omega)
    have hle : (Lib.compact ys).length ≤ ys.length := compact_len ys
    have hzb : BdI (Lib.compact ys) := fun x hx => hbd x ((hy2 x).1 ((HC2.out x).1 hx))
    have HM := Lib.hid (show ∀ x, x ∈ Lib.compact ys ↔ x ∈ xs from fun x => (HC2.out x).trans (hy2 x))
    clear HC2 hy2
    generalize Lib.compact ys = zs at HC1 HM ho3 hle hzb ⊢
    go_loopw [5] (fun i wr => ∃ k : Nat, 1 ≤ k ∧ i = .int .i64 k ∧ opp zs k = false ∧ (k ≤ zs.length ∨ k = 1) ∧ Ext w wr ∧ OwnI wr w.heap.size (.slice (some ⟨g, 0, none⟩) zs.length cap) zs) (fun i _ => zs.length - (intOf i).toNat)
    case atStart => exact ⟨1, Nat.le_refl _, rfl, rfl, .inr rfl, hE3, ho3⟩
    case round =>
      obtain ⟨k, hk, rfl, hop, hkl, hE4, ho4⟩ := hrel
      have HO := Lib.hid hop
      clear hop
      by_cases hlt : k < zs.length
      · obtain ⟨j, rfl⟩ : ∃ j, k = j + 1 := ⟨k - 1, by omega⟩
        obtain ⟨x, hxk⟩ : ∃ x, zs[j + 1]? = some x := ⟨_, List.getElem?_eq_getElem hlt⟩
        obtain ⟨y, hyk⟩ : ∃ y, zs[j]? = some y := ⟨_, List.getElem?_eq_getElem (by omega)⟩
        obtain ⟨y1, y2⟩ := hzb.at hyk
        have hcx := (ho4.at rfl hxk).1
        have hcy := (ho4.at rfl hyk).1
        have hwn := wrap64_neg y1 y2
        have HX := Lib.hid hxk
        have HY := Lib.hid hyk
        clear hxk hyk
        cases hq : (x == -y)
        · go_wp2
          go_quiet (fail)
          go_wp2
          refine ⟨⟨j + 2, by omega, by go_num, ?_, by omega, hE4.trans (Ext.drewN _ _), ho4.ext (Ext.drewN _ _)⟩, by simp [intOf]; omega⟩
          simp [opp, HO.out, HX.out, HY.out, hq]
        · go_wp2
          go_quiet (fail)
          go_wp2
          go_ret2
          have HN : clauseO zs = none := by
            have : opp zs zs.length = true := by
              have h2 : opp zs (j + 2) = true := by simp [opp, HX.out, HY.out, hq]
              cases hf : opp zs zs.length with
              | true => rfl
              | false => exact absurd (by simpa using hq) (opp_false hf j x y hlt HX.out HY.out)
            simp [clauseO, this]
          exact ⟨_, zs, by rw [HN]; rfl, HC1.out, HM.out, fun d h => (by rw [HN] at h; cases h), hE4.trans (Ext.drewN _ _)⟩
      · have HN : clauseO zs = some zs := by
          have : opp zs zs.length = false := by
            rcases hkl with h | h
            · rw [show zs.length = k by omega]; exact HO.out
            · subst h
              cases hz : zs with
              | nil => rfl
              | cons a r =>
                cases r with
                | nil => rfl
                | cons b r => rw [hz] at hlt; simp at hlt
          simp [clauseO, this]
        go_wp2
        go_ret2
        exact ⟨_, zs, by rw [HN]; rfl, HC1.out, HM.out, fun d h => (by rw [HN] at h; injection h with h; subst h; exact ho4), hE4⟩
end Go.Proofs.YtfnjhodologfeaaGreat
/- resolve -/
namespace Go.Proofs.YtfnjhodologfeaaGreat
open Go.RowKit

theorem lists_two {w : World} {u1 u2 : Value} {xs ys : List Int} (h1 : Ints w u1 xs) (h2 : Ints w u2 ys) : Lists (w.alloc (.cells #[u1, u2] 33)) (.slice (some ⟨w.heap.size, 0, none⟩) 2 2) [xs, ys] := by
  have hx : Ext w (w.alloc (.cells #[u1, u2] 33)) := (by repeat (first | exact Ext.refl _ | assumption | apply Ext.dn | apply Ext.drew | apply Ext.alloc))
  refine ⟨[u1, u2], rfl, own_sl (World.ownsRow_lit (base := w.heap.size) (size := 1) w #[u1, u2] 2 (Nat.le_refl _) (by simp [maxLen]) rfl), ?_⟩
  intro i u zs hi hz
  match i, hi, hz with
  | 0, hi, hz => simp only [List.getElem?_cons_zero, Option.some.injEq] at hi hz; subst hi; subst hz; exact h1.ext hx
  | 1, hi, hz => simp only [List.getElem?_cons_succ, List.getElem?_cons_zero, Option.some.injEq] at hi hz; subst hi; subst hz; exact h2.ext hx
  | n + 2, hi, hz => simp at hi

theorem bdI_append {a b : List Int} (h1 : BdI a) (h2 : BdI b) : BdI (a ++ b) := by
  intro x hx
  rcases List.mem_append.1 hx with h | h
  · exact h1 x h
  · exact h2 x h
theorem bdI_without {a : List Int} {v : Int} (h1 : BdI a) : BdI (withoutL a v) := fun x hx => h1 x (withoutL_mem hx)

set_option maxRecDepth 100000 in
set_option maxHeartbeats 1000000 in
theorem resolve_any : ResolveSaid := by
  intro va vb a b v vars w hxa hxb hca hcb hv1 hv2
  have hla := clauseB_len hca
  have hlb := clauseB_len hcb
  have hbda := clauseB_bd hca
  have hbdb := clauseB_bd hcb
  have hvb : v ≤ 12 := by
    have := hca
    simp only [clauseB, Bool.and_eq_true] at this
    have := this.1
    simp [inB] at this
    omega
  have hwn := wrap64_neg (x := v) (by omega) (by omega)
  have HCA := Lib.hid hca
  have HCB := Lib.hid hcb
  clear hca hcb
  cases h1 : hasB a v
  · have HN := Lib.hid (show resolveL a b v = none by simp [resolveL, h1])
    go_enter Tryz.func160, Tryz.ntmps160
    go_wp2_with (go_at_call 83; refine (Contains_any _ a _ _ hxa).mono ?_; rw [h1]; rintro e w1 ⟨rfl, rfl⟩)
    go_ret2
    exact ⟨_, by rw [HN.out]; rfl, fun d h => (by rw [HN.out] at h; cases h), .refl _⟩
  · cases h2 : hasB b (-v)
    · have HN := Lib.hid (show resolveL a b v = none by simp [resolveL, h2])
      go_enter Tryz.func160, Tryz.ntmps160
      go_wp2_with (first
        | (go_at_call 83; refine (Contains_any _ a v _ hxa).mono ?_; rw [h1]; rintro e w1 ⟨rfl, rfl⟩)
        | (go_at_call 83; refine (Contains_any _ b (-v) _ hxb).mono ?_; rw [h2]; rintro e w2 ⟨rfl, rfl⟩))
      go_ret2
      exact ⟨_, by rw [HN.out]; rfl, fun d h => (by rw [HN.out] at h; cases h), .refl _⟩
    · have HN := Lib.hid (show resolveL a b v = joinL (withoutL a v) (withoutL b v) by simp [resolveL, h1, h2])
      have hfl : [withoutL a v, withoutL b v].flatten = withoutL a v ++ withoutL b v := by simp
      have hlen : [withoutL a v, withoutL b v].flatten.length ≤ 1000 := by
        have := withoutL_length a v; have := withoutL_length b v
        rw [hfl, List.length_append]; omega
      have hbd2 : BdI [withoutL a v, withoutL b v].flatten := by rw [hfl]; exact bdI_append (bdI_without hbda) (bdI_without hbdb)
      have HF := Lib.hid hfl
      clear hfl
      go_enter Tryz.func160, Tryz.ntmps160
      go_wp2_with (first
        | (go_at_call 83; refine (Contains_any _ a v _ hxa).mono ?_; rw [h1]; rintro e w1 ⟨rfl, rfl⟩)
        | (go_at_call 83; refine (Contains_any _ b (-v) _ hxb).mono ?_; rw [h2]; rintro e w2 ⟨rfl, rfl⟩; have hE2 := Ext.refl w)
        | (go_at_call 178; refine (withoutVar_any _ a v _ (hxa.ext hE2) (by omega) hbda).mono ?_; rintro e w3 ⟨r3, rfl, ho3, he3⟩; obtain ⟨rb3, rc3, rfl, _, _, _⟩ := ho3.ints.open)
        | (go_at_call 178; refine (withoutVar_any _ b v _ (hxb.ext (hE2.trans he3)) (by omega) hbdb).mono ?_; rintro e w4 ⟨r4, rfl, ho4, he4⟩; obtain ⟨rb4, rc4, rfl, _, _, _⟩ := ho4.ints.open)
        | (go_at_call 61; go_loud (refine (Concat_any _ [withoutL a v, withoutL b v] _ (lists_two (ho3.ext he4).ints ho4.ints) (Nat.le_trans hlen (by decide))).mono ?_; rintro e w5 ⟨r5, rfl, ho5, he5⟩))
        | (go_at_call 177; refine (clause_any _ _ _ ho5.ints (by omega) hbd2).mono ?_; rintro e w6 ⟨r6, zs, rfl, hz1, hz2, ho6, he6⟩))
      go_ret2
      have hz := clauseO_join (a := withoutL a v) (b := withoutL b v) (withoutL_sa (clauseB_sa HCA.out)) hz1 (fun x => by rw [hz2, HF.out]) (fun x hx => by
        rcases List.mem_append.1 hx with h | h
        · exact clauseB_ne HCA.out x (withoutL_mem h)
        · exact clauseB_ne HCB.out x (withoutL_mem h))
      rw [HN.out, ← hz]
      exact ⟨_, rfl, fun d h => (ho6 d h).ints, hE2.trans (he3.trans (he4.trans (Ext.trans (by repeat (first | exact Ext.refl _ | assumption | apply Ext.dn | apply Ext.drew | apply Ext.alloc)) (he5.trans he6))))⟩
end Go.Proofs.YtfnjhodologfeaaGreat
/- a world in which one row may have turned; lists built step by step -/
namespace Go.Proofs.YtfnjhodologfeaaGreat
open Go.RowKit

/-- all but the block g is as it was -/
def Keep (g : Nat) (w w' : World) : Prop := w.grownBy w' (some g)
theorem Keep.of_ext {g : Nat} {w w' : World} (h : Ext w w') : Keep g w w' := ⟨h.os, h.tape, h.output, h.size, fun k hk _ => Below.block h k hk⟩
theorem Keep.refl (g : Nat) (w : World) : Keep g w w := World.grownBy.refl w _
theorem Keep.trans {g : Nat} {a b c : World} (h : Keep g a b) (k : Keep g b c) : Keep g a c := World.grownBy.trans h k
theorem Keep.cell {g : Nat} {w w' : World} (h : Keep g w w') {p : Addr} {v : Value} (hc : w.cell? p = some v) (hne : p.block ≠ g) : w'.cell? p = some v := World.grownBy.cell h hc (fun e => hne (by injection e))
theorem Keep.alloc {g : Nat} {w w' : World} (h : Keep g w w') (o : Obj) : Keep g w (w'.alloc o) := h.trans (.of_ext ((Ext.refl _).alloc o))
theorem Keep.drew {g : Nat} {w w' : World} (h : Keep g w w') : Keep g w w'.drew := h.trans (.of_ext (Ext.refl _).drew)
theorem Keep.dn {g : Nat} {w w' : World} (h : Keep g w w') (n : Nat) : Keep g w (w'.drewN n) := h.trans (.of_ext (Ext.drewN _ n))
theorem Keep.set {g : Nat} {w w' : World} (h : Keep g w w') (j : Nat) (u : Value) : Keep g w (w'.setCell ⟨g, j, none⟩ u) :=
  h.trans ⟨rfl, rfl, rfl, by simp, fun k _ hk => heap_setCell_other w' ⟨g, j, none⟩ k u (fun e => hk (by simp [e]))⟩
theorem Keep.ext {g : Nat} {a w w' : World} (h : Keep g w w') (ha : Ext a w) (hg : a.heap.size ≤ g) : Ext a w' := Below.grown ha h ha.size (fun k hk => by injection hk with hk; omega)
theorem Keep.own {g B : Nat} {w w' : World} {v : Value} {xs : List Int} (h : Keep g w w') (ho : OwnI w B v xs) (hg : v.ownBlock ≠ some g) : OwnI w' B v xs := ho.grown h (.inr hg)
theorem Keep.size {g : Nat} {w w' : World} (h : Keep g w w') : w.heap.size ≤ w'.heap.size := World.grownBy.size h

/-- a new row, read while another row turns -/
theorem OwnI.openK {w : World} {B : Nat} {v : Value} {xs : List Int} {g : Nat} (h : OwnI w B v xs) (hg : g < B) : ∃ base cap, v = .slice base xs.length cap ∧ xs.length ≤ cap ∧ cap ≤ 9223372036854775807 ∧
    ∀ j, j < xs.length → ∃ b, base = some ⟨b, 0, none⟩ ∧ ∀ i, i < xs.length → ∃ x, xs[i]? = some x ∧ ∀ w', Keep g w w' → w'.cell? ⟨b, i, none⟩ = some (.int .i64 x) := by
  rcases h.form with ⟨rfl, rfl⟩ | ⟨gb, cap, rfl, h1, h2, h3, h4⟩
  · exact ⟨none, 0, rfl, Nat.le_refl _, by omega, fun j hj => (by simp at hj)⟩
  · refine ⟨_, cap, rfl, h1, h2, fun j _ => ⟨gb, rfl, fun i hi => ⟨_, List.getElem?_eq_getElem hi, fun w' hk => ?_⟩⟩⟩
    exact hk.cell (h.at rfl (List.getElem?_eq_getElem hi)).1 (by show gb ≠ g; omega)
theorem set_mid {acc rest : List Int} {k : Nat} (h : acc.length = k) (v x : Int) : (acc ++ v :: rest).set k x = acc ++ x :: rest := by
  subst h
  simp [List.set_append]
theorem at_mid {acc rest : List Int} {k : Nat} (h : acc.length = k) (v : Int) : (acc ++ v :: rest)[k]? = some v := by
  subst h
  simp

/-- an int of a list at an int place -/
def getI (l : List Int) (i : Int) : Int := l.getD i.toNat 0
theorem getI_at {l : List Int} {k : Nat} {x : Int} (h : l[k]? = some x) : getI l (k : Int) = x := by simp [getI, List.getD, h]
theorem getI_mem {l : List Int} {i : Int} (h0 : 0 ≤ i) (h1 : i < l.length) : getI l i ∈ l := by
  unfold getI List.getD
  rw [List.getElem?_eq_getElem (show i.toNat < l.length by omega)]
  simp
theorem getI_some {l : List Int} {i : Int} (h0 : 0 ≤ i) (h1 : i < l.length) : l[i.toNat]? = some (getI l i) := by
  unfold getI List.getD
  rw [List.getElem?_eq_getElem (show i.toNat < l.length by omega)]
  simp

theorem getI_ahead {acc rest : List Int} {k q : Nat} (h : acc.length = k) (hq : q < k) (v : Int) : (acc ++ v :: rest)[q]? = some (getI acc (q : Int)) := by
  subst h
  rw [List.getElem?_append_left hq]
  have := getI_some (l := acc) (i := (q : Int)) (by omega) (by omega)
  simpa using this
theorem foldl_take_succ {g : Int → Int → Int} {P : List Int} {j : Nat} {p v : Int} (h : P[j]? = some p) : (P.take (j + 1)).foldl g v = g ((P.take j).foldl g v) p := by
  rw [take_succ_at h]; simp

def buildTo (f : List Int → RS → Int) (ss : List RS) : Nat → List Int
  | 0 => []
  | k + 1 => buildTo f ss k ++ [match ss[k]? with | some s => f (buildTo f ss k) s | none => 0]
theorem buildTo_length (f : List Int → RS → Int) (ss : List RS) (k : Nat) : (buildTo f ss k).length = k := by
  induction k with
  | zero => rfl
  | succ k ih => simp [buildTo, ih]
theorem buildTo_succ {f : List Int → RS → Int} {ss : List RS} {k : Nat} {s : RS} (h : ss[k]? = some s) : buildTo f ss (k + 1) = buildTo f ss k ++ [f (buildTo f ss k) s] := by
  simp [buildTo, h]
theorem buildTo_take (f : List Int → RS → Int) (ss : List RS) {j k : Nat} (h : j ≤ k) : (buildTo f ss k).take j = buildTo f ss j := by
  induction k with
  | zero => obtain rfl : j = 0 := by omega
            rfl
  | succ k ih =>
    by_cases hjk : j = k + 1
    · subst hjk
      rw [List.take_of_length_le (by simp [buildTo_length])]
    · have hl := buildTo_length f ss k
      rw [buildTo, List.take_append_of_le_length (by omega)]
      exact ih (by omega)
theorem buildTo_all {f : List Int → RS → Int} {ss : List RS} {Q : Nat → Int → Prop} (h : ∀ k s, ss[k]? = some s → (∀ j : Nat, j < k → Q j (getI (buildTo f ss k) j)) → Q k (f (buildTo f ss k) s)) :
    ∀ k, k ≤ ss.length → ∀ j : Nat, j < k → Q j (getI (buildTo f ss k) j) := by
  intro k
  induction k with
  | zero => intro _ j hj; omega
  | succ k ih =>
    intro hk j hj
    have hsk : ss[k]? = some (ss[k]'(by omega)) := List.getElem?_eq_getElem (by omega)
    have hl := buildTo_length f ss k
    rw [buildTo_succ hsk]
    by_cases hjk : j < k
    · have := ih (by omega) j hjk
      have e : getI (buildTo f ss k ++ [f (buildTo f ss k) ss[k]]) (j : Int) = getI (buildTo f ss k) j := by
        simp [getI, List.getD, List.getElem?_append_left (show j < (buildTo f ss k).length by omega)]
      rw [e]; exact this
    · obtain rfl : j = k := by omega
      have e : getI (buildTo f ss j ++ [f (buildTo f ss j) ss[j]]) (j : Int) = f (buildTo f ss j) ss[j] := by
        simp [getI, List.getD, hl]
      rw [e]
      exact h j _ hsk (ih (by omega))

/-- premises lie ahead -/
def PreOk (ss : List RS) : Prop := ∀ (k : Nat) (s : RS), ss[k]? = some s → ∀ p ∈ premL s, 0 ≤ p ∧ p < (k : Int)
theorem corrTo_at {f : CNF} {ss : List RS} : ∀ {n : Nat}, corrTo f ss n = true → ∀ k, k < n → correctB f ss k = true
  | 0, _, k, hk => by omega
  | n + 1, h, k, hk => by
    simp only [corrTo, Bool.and_eq_true] at h
    by_cases hkn : k < n
    · exact corrTo_at h.1 k hkn
    · obtain rfl : k = n := by omega
      exact h.2
theorem takes_corr {f : CNF} {ss : List RS} (h : takesB f ss = true) : (0 < ss.length ∧ ss.length ≤ 200 ∧ goodCnf f = true) ∧ ∀ k, k < ss.length → correctB f ss k = true := by
  simp only [takesB, goodB, askedB, Bool.and_eq_true, decide_eq_true_eq] at h
  exact ⟨⟨h.1, h.2.1.1, h.2.1.2⟩, corrTo_at h.2.2⟩
theorem earlierB_lt {f : CNF} {ss : List RS} {k : Nat} {i : Int} (h : earlierB f ss k i = true) : 0 ≤ i ∧ i < (k : Int) := by
  obtain ⟨j, h1, h2, h3⟩ := earlierB_at h
  omega
theorem correct_pre {f : CNF} {ss : List RS} {k : Nat} {s : RS} (hs : ss[k]? = some s) (h : correctB f ss k = true) : ∀ p ∈ premL s, 0 ≤ p ∧ p < (k : Int) := by
  simp only [correctB, hs] at h
  unfold correctAt at h
  intro p hp
  unfold premL at hp
  split at h
  · cases h
  · split at h
    · rename_i h1
      have : s.left = -1 := by simpa using h1
      simp [this] at hp
    · split at h
      · cases h
      · rename_i h2
        have hl := earlierB_lt (by simpa using h2)
        rw [if_neg (by omega)] at hp
        split at h
        · rename_i h3
          have : s.right = -1 := by simpa using h3
          simp only [this] at hp
          simp at hp
          omega
        · split at h
          · cases h
          · rename_i h4
            have hr := earlierB_lt (f := f) (ss := ss) (k := k) (i := s.right) (by
              cases h5 : earlierB f ss k s.right with
              | true => rfl
              | false => exact absurd (.inl h5) h4)
            rw [if_neg (by omega)] at hp
            simp at hp
            rcases hp with rfl | rfl <;> omega
theorem takes_pre {f : CNF} {ss : List RS} (h : takesB f ss = true) : PreOk ss := by
  obtain ⟨_, h2⟩ := takes_corr h
  intro k s hs
  exact correct_pre hs (h2 k (List.getElem?_eq_some_iff.1 hs).1)
theorem isProof_any (v vs : Value) (f : CNF) (ss : List RS) (w : World) (hx : CnfV w v f) (hs : Steps w vs ss) :
    Calls Tryz.prog 39 #[v, vs] w (BoolE w (takesB f ss)) := isProof_of resolve_any v vs f ss w hx hs
end Go.Proofs.YtfnjhodologfeaaGreat
/- stepDepths -/
namespace Go.Proofs.YtfnjhodologfeaaGreat
open Go.RowKit

/-- depth of a step, after the depths of those ahead -/
def depF (acc : List Int) (s : RS) : Int := (premL s).foldl (fun v p => max v (getI acc p)) 0 + (if resB s then 1 else 0)
theorem depF_eq (acc : List Int) (s : RS) : depF acc s = (premL s).foldl (fun v p => max v (getI acc p)) 0 + (if resB s then 1 else 0) := rfl
def depL (ss : List RS) : List Int := buildTo depF ss ss.length

theorem foldl_max_bd {acc : List Int} {M : Int} (hM : ∀ x ∈ acc, 0 ≤ x ∧ x ≤ M) : ∀ (P : List Int) (v : Int), (∀ p ∈ P, 0 ≤ p ∧ p < acc.length) → 0 ≤ v → v ≤ M → 0 ≤ P.foldl (fun v p => max v (getI acc p)) v ∧ P.foldl (fun v p => max v (getI acc p)) v ≤ M
  | [], v, _, h0, h1 => ⟨h0, h1⟩
  | p :: P, v, hP, h0, h1 => by
    have hp := hP p (by simp)
    have hg := hM _ (getI_mem hp.1 hp.2)
    exact foldl_max_bd hM P (max v (getI acc p)) (fun q hq => hP q (by simp [hq])) (by omega) (by omega)

theorem depF_bd {ss : List RS} (hpre : PreOk ss) : ∀ k, k ≤ ss.length → ∀ x ∈ buildTo depF ss k, 0 ≤ x ∧ x ≤ (k : Int) := by
  intro k
  induction k with
  | zero => intro _ x hx; simp [buildTo] at hx
  | succ k ih =>
    intro hk x hx
    have hsk : ss[k]? = some (ss[k]'(by omega)) := List.getElem?_eq_getElem (by omega)
    rw [buildTo_succ hsk] at hx
    rcases List.mem_append.1 hx with h | h
    · have := ih (by omega) x h; omega
    · simp only [List.mem_singleton] at h
      subst h
      have := foldl_max_bd (ih (by omega)) (premL ss[k]) 0 (fun p hp => by
        have := hpre k _ hsk p hp
        rw [buildTo_length]; exact this) (by omega) (by omega)
      rw [depF_eq]
      split <;> omega

theorem premL_len (s : RS) : (premL s).length ≤ 2 := by
  unfold premL
  split
  · simp
  · split <;> simp

set_option maxRecDepth 100000 in
set_option maxHeartbeats 2000000 in
theorem stepDepths_any (vs : Value) (ss : List RS) (w : World) (hs : Steps w vs ss) (hpre : PreOk ss) (hn : ss.length ≤ 100000) :
    Calls Tryz.prog 46 #[vs] w (NewI w (depL ss)) := by
  obtain ⟨base, cap, rfl, hc1, hc2, hcell⟩ := hs.open
  have HBD := Lib.hid (depF_bd hpre)
  have HPR := Lib.hid hpre
  clear hpre
  go_enter Tryz.func46, Tryz.ntmps46
  go_wp2_with (at_make; refine wpList_makeI rfl _ _ rfl ss.length rfl rfl (by omega) ?_; intro w1 ho1 he1)
  go_loopw [13] (fun i wr => ∃ k : Nat, k ≤ ss.length ∧ i = .int .i64 k ∧ OwnI wr w.heap.size (.slice (some ⟨w.heap.size, 0, none⟩) ss.length ss.length) (buildTo depF ss k ++ List.replicate (ss.length - k) 0) ∧ Ext w wr) (fun i _ => ss.length - (intOf i).toNat)
  case atStart => exact ⟨0, Nat.zero_le _, rfl, by simpa [buildTo] using ho1, he1⟩
  case round =>
    obtain ⟨k, hk, rfl, hown, hext⟩ := hrel
    by_cases hlt : k < ss.length
    · obtain ⟨b, off, rfl, hb, hcs⟩ := hcell k hlt
      obtain ⟨s, u, hsk, hci⟩ := hcs k hlt
      obtain ⟨hu0, hu1, hu2, hu3, hcI⟩ := hci wr hext
      have hval : StepV wr (.agg #[u, .int .i64 s.left, .int .i64 s.right, .int .i64 s.pivot]) s := ⟨u, rfl, hcI⟩
      obtain ⟨ub, uc, rfl, _, _, _⟩ := hcI.open
      have hSV : ∀ w', Ext w w' → StepV w' (.agg #[.slice ub s.clause.length uc, .int .i64 s.left, .int .i64 s.right, .int .i64 s.pivot]) s := fun w' h => ⟨_, rfl, (hci _ h).2.2.2.2⟩
      have HPk := Lib.hid (HPR.out k s hsk)
      have HS := Lib.hid hsk
      have hgl := hown.base
      have hal := buildTo_length depF ss k
      have hab := HBD.out k hk
      generalize hacc : buildTo depF ss k = acc at hown hal hab
      obtain ⟨m, hm⟩ : ∃ m, ss.length = k + 1 + m := ⟨ss.length - k - 1, by omega⟩
      have hr : List.replicate (ss.length - k) (0 : Int) = 0 :: List.replicate m 0 := by rw [show ss.length - k = m + 1 by omega]; rfl
      rw [hr] at hown
      clear hr
      have HBS := Lib.hid (show buildTo depF ss (k + 1) ++ List.replicate (ss.length - (k + 1)) 0 = acc ++ depF acc s :: List.replicate m 0 by
        rw [buildTo_succ hsk, hacc, show ss.length - (k + 1) = m by omega]; simp)
      have HM := Lib.hid hm
      clear hcell hcs hci hsk hacc hm
      go_wp2_with (first | (go_at_call 78; refine (premises_any _ s _ (hval.ext (by repeat (first | exact Ext.refl _ | assumption | apply Ext.dn | apply Ext.drew | apply Ext.alloc)))).mono ?_; rintro e w2 ⟨r2, rfl, ho2, he2⟩; obtain ⟨f0, f1, f2, f3, hE2⟩ := own4_cells he2; have hszr := hE2.size; obtain ⟨rb, rc, rfl, hrc1, hrc2, hrcell⟩ := ho2.openK (g := w.heap.size) (by simp; omega)))
      have hown2 := hown.ext hE2
      have hx2 := hext.trans hE2
      have hpl := premL_len s
      have hsb : wr.heap.size ≠ w.heap.size := by omega
      have HV := Lib.hid (show depF acc s = (premL s).foldl (fun v p => max v (getI acc p)) 0 + (if resB s then 1 else 0) from rfl)
      clear hown hext hval ho2 he2 hE2
      generalize premL s = P at HPk hpl HV hrc1 hrcell ⊢
      have HFB := Lib.hid (fun j => foldl_max_bd hab (P.take j) 0 (fun p hp => by
        have := HPk.out p (List.mem_of_mem_take hp)
        rw [hal]; exact this) (by omega) (by omega))
      clear hab
      go_loopw [21] (fun i wr' => ∃ j : Nat, j ≤ P.length ∧ i = .int .i64 j ∧ OwnI wr' w.heap.size (.slice (some ⟨w.heap.size, 0, none⟩) ss.length ss.length) (acc ++ (P.take j).foldl (fun v p => max v (getI acc p)) 0 :: List.replicate m 0) ∧ Keep w.heap.size w2 wr') (fun i _ => P.length - (intOf i).toNat)
      case atStart => exact ⟨0, Nat.zero_le _, rfl, hown2, .refl _ _⟩
      case round =>
        obtain ⟨j, hj, rfl, hown, hkp⟩ := hrel
        have hln : (acc ++ (P.take j).foldl (fun v p => max v (getI acc p)) 0 :: List.replicate m 0).length = ss.length := by have := HM.out; simp; omega
        by_cases hjl : j < P.length
        · obtain ⟨gb, rfl, hri⟩ := hrcell j hjl
          obtain ⟨p, hpj, hpc⟩ := hri j hjl
          have hpc' := hpc _ hkp
          obtain ⟨hp0, hp1⟩ := HPk.out p (List.mem_of_getElem? hpj)
          obtain ⟨q, rfl⟩ : ∃ q : Nat, p = (q : Int) := ⟨p.toNat, by omega⟩
          have hqk : q < k := by omega
          have hqn : (q : Int) < (ss.length : Int) := by omega
          have hc1 := (hown.at hln.symm (at_mid hal _)).1
          have hf1 := (hown.at hln.symm (at_mid hal _)).2
          have hc2 := (hown.at hln.symm (getI_ahead hal hqk _)).1
          have HT := Lib.hid (foldl_take_succ (g := fun v p => max v (getI acc p)) (v := 0) hpj)
          clear hrcell hri hpc hpj
          generalize (P.take j).foldl (fun v p => max v (getI acc p)) 0 = V at hown hln hc1 hf1 hc2 HT
          have hset := hown.set hln.symm k (max V (getI acc (q : Int)))
          rw [set_mid hal] at hset
          generalize getI acc (q : Int) = G at hc2 HT hset
          go_wp2
          go_region
          go_wp2
          refine ⟨⟨j + 1, by omega, by go_num, ?_, (hkp.set k _).drew⟩, by simp [intOf]; omega⟩
          rw [HT.out]
          exact hset
        · have hjP : P.take j = P := List.take_of_length_le (by omega)
          rw [hjP] at hown
          have hc1 := (hown.at (by have := HM.out; simp; omega) (at_mid hal _)).1
          have hf1 := (hown.at (by have := HM.out; simp; omega) (at_mid hal _)).2
          have hfb := HFB.out P.length
          rw [List.take_length] at hfb
          clear hrcell hln
          have hxr := hkp.ext hx2 (Nat.le_refl _)
          have hlen2 : (acc ++ P.foldl (fun v p => max v (getI acc p)) 0 :: List.replicate m 0).length = ss.length := by have := HM.out; simp; omega
          generalize P.foldl (fun v p => max v (getI acc p)) 0 = V at hown hc1 hf1 hfb HV hlen2
          have g0 := hkp.cell f0 hsb
          have g1 := hkp.cell f1 hsb
          have g2 := hkp.cell f2 hsb
          have g3 := hkp.cell f3 hsb
          clear f0 f1 f2 f3 hkp
          cases hrb : resB s
          · have HV2 := Lib.hid (show depF acc s = V by rw [HV.out, hrb]; simp)
            go_wp2_with (go_at_call 58; refine (isResolvent_any _ s _ (hSV _ hxr)).mono ?_; rw [hrb]; rintro e w3 ⟨rfl, hd3⟩)
            refine ⟨⟨k + 1, by omega, by go_num, ?_, hxr.trans hd3⟩, by simp [intOf]; omega⟩
            rw [HBS.out, HV2.out]
            exact hown.ext hd3
          · have HV2 := Lib.hid (show depF acc s = V + 1 by rw [HV.out, hrb]; simp)
            go_wp2_with (go_at_call 58; refine (isResolvent_any _ s _ (hSV _ hxr)).mono ?_; rw [hrb]; rintro e w3 ⟨rfl, hd3⟩; have hc3 := hd3.cell hc1; have hf3 := (hown.ext hd3).at hlen2.symm (at_mid hal _))
            refine ⟨⟨k + 1, by omega, by go_num, ?_, (hxr.trans hd3).setCell (Nat.le_refl _) _⟩, by simp [intOf]; omega⟩
            rw [HBS.out, HV2.out]
            have hset := (hown.ext hd3).set hlen2.symm k (V + 1)
            rw [set_mid hal] at hset
            exact hset
    · obtain rfl : k = ss.length := by omega
      clear hcell
      go_wp2
      go_ret
      refine ⟨_, rfl, ?_, hext⟩
      rw [Nat.sub_self, List.replicate_zero, List.append_nil] at hown
      exact hown
end Go.Proofs.YtfnjhodologfeaaGreat
