/- Parts of the proof: D12, K9. -/
import Derived.Test.YtfnjhodologfeaaGreatG25
import Derived.Deep.RegionHeld3
set_option linter.unusedSimpArgs false
set_option linter.unusedVariables false
/- RenameCnf -/
namespace Go.Proofs.YtfnjhodologfeaaGreat
open Go.RowKit

/-- a change of signs -/
def RenP (to : List Int) (n : Int) : Prop := (to.length : Int) = n ∧ ∀ (i : Nat) (x : Int), to[i]? = some x → x = (i : Int) + 1 ∨ x = -((i : Int) + 1)
def renI (to : List Int) (l : Int) : Int := if l < 0 then -(to.getD (absI l - 1).toNat 0) else to.getD (absI l - 1).toNat 0
def renC (to : List Int) (c : List Int) : List Int := c.map (renI to)
theorem RenP.abs {to : List Int} {n : Int} (h : RenP to n) {i : Nat} {x : Int} (hx : to[i]? = some x) : absI x = (i : Int) + 1 := by
  rcases h.2 i x hx with rfl | rfl
  · unfold absI; rw [if_neg (by omega)]
  · unfold absI; rw [if_pos (by omega)]; omega
theorem RenP.ren {to : List Int} {n : Int} (h : RenP to n) {l : Int} (h0 : l ≠ 0) (h1 : -n ≤ l ∧ l ≤ n) : absI (renI to l) = absI l ∧ ∃ x, to[(absI l - 1).toNat]? = some x ∧ renI to l = if l < 0 then -x else x := by
  have hl := h.1
  have ha : 1 ≤ absI l ∧ absI l ≤ n := by unfold absI; split <;> omega
  have hk : (absI l - 1).toNat < to.length := by omega
  obtain ⟨x, hx⟩ : ∃ x, to[(absI l - 1).toNat]? = some x := ⟨_, List.getElem?_eq_getElem hk⟩
  have hax := h.abs hx
  have e : to.getD (absI l - 1).toNat 0 = x := by unfold List.getD; rw [hx]; rfl
  have e2 : renI to l = if l < 0 then -x else x := by unfold renI; rw [e]
  refine ⟨?_, x, hx, e2⟩
  rw [e2]
  have : absI (-x) = absI x := by unfold absI; split <;> split <;> omega
  split
  · rw [this, hax]; omega
  · rw [hax]; omega
theorem hasB_none {xs : List Int} {n : Int} (h : ∀ y ∈ xs, y ≠ n) : hasB xs n = false := by
  unfold hasB
  rw [List.any_eq_false]
  intro y hy
  simpa using h y hy
theorem RenP.fresh {to : List Int} {n : Int} (h : RenP to n) {k : Nat} {x : Int} (hx : to[k]? = some x) : hasB (to.take k) x = false ∧ hasB (to.take k) (-x) = false := by
  have hax := h.abs hx
  have key : ∀ y ∈ to.take k, absI y < absI x := by
    intro y hy
    obtain ⟨j, hj, rfl⟩ := List.mem_iff_getElem.1 hy
    rw [List.length_take] at hj
    have := h.abs (i := j) (x := (to.take k)[j]) (by rw [List.getElem_take]; exact List.getElem?_eq_getElem (by omega))
    omega
  have : absI (-x) = absI x := by unfold absI; split <;> split <;> omega
  exact ⟨hasB_none fun y hy e => by have := key y hy; rw [e] at this; omega, hasB_none fun y hy e => by have := key y hy; rw [e] at this; omega⟩
theorem putL_end (l : Int) : ∀ c : List Int, (∀ x ∈ c, absI x < absI l) → putL c l = c ++ [l]
  | [], _ => rfl
  | a :: c, h => by
    have h1 : absI a < absI l := h a (by simp)
    have ih := putL_end l c (fun x hx => h x (List.mem_cons_of_mem _ hx))
    unfold putL at ih ⊢
    rw [List.takeWhile_cons_of_pos (by simpa using h1), List.dropWhile_cons_of_pos (by simpa using h1), List.cons_append, ih]
    rfl
theorem OkC.of {vars : Int} {c : List Int} (h : clauseB vars c = true) : OkC vars c :=
  ⟨fun x hx => by have := clauseB_lits h x hx; omega, clauseB_sa h⟩
theorem goodCnf_at {f : CNF} (h : goodCnf f = true) {k : Nat} {c : List Int} (hc : f.clauses[k]? = some c) : clauseB f.vars c = true := by
  cases h2 : clauseB f.vars c with
  | true => rfl
  | false =>
    have hk := (List.getElem?_eq_some_iff.1 hc).1
    simp only [goodCnf, Bool.and_eq_true] at h
    have := h.2
    rw [allTo_false hc h2 _ hk] at this
    cases this

set_option maxRecDepth 100000 in
set_option maxHeartbeats 4000000 in
theorem RenameCnf_any (v vt : Value) (f : CNF) (to : List Int) (w : World) (hx : CnfV w v f) (ht : Ints w vt to) (hg : goodCnf f = true) (hto : RenP to f.vars) :
    Calls Tryz.prog 118 #[v, vt] w fun e w' => ∃ cv, e = .returned (.tuple #[.agg #[.int .i64 f.vars, cv], .bool true]) ∧ OwnL w' w.heap.size cv (f.clauses.map (renC to)) ∧ Ext w w' := by
  obtain ⟨cv, rfl, hls⟩ := hx
  obtain ⟨base, cap, rfl, hc1, hc2, hcell⟩ := hls.open
  obtain ⟨tb, tc, rfl, htc1, htc2, htcell⟩ := ht.open
  have hv : 0 ≤ f.vars ∧ f.vars ≤ 12 := by simp only [goodCnf, Bool.and_eq_true] at hg; have := hg.1.1; simp [inB] at this; omega
  have HTO := Lib.hid hto
  have HLEN := Lib.hid hto.1
  have hlen := hto.1
  clear hto
  go_enter Tryz.func118, Tryz.ntmps118
  go_wp2_with (go_at_call 111; refine (l2Good_any _ f _ ⟨_, rfl, hls.ext (by repeat (first | exact Ext.refl _ | assumption | apply Ext.dn | apply Ext.drew | apply Ext.alloc))⟩).mono ?_; rw [hg]; rintro e w1 ⟨rfl, hE1⟩; have hB1 := (CBlk.made w f.vars (.slice base f.clauses.length cap)).ext (Ext.trans (by repeat (first | exact Ext.refl _ | assumption | apply Ext.dn | apply Ext.drew | apply Ext.alloc)) hE1); have hB4 : CBlk w1 (w.heap.size + 1) 0 (.slice none 0 0) := (by have := (CBlk.made (w.alloc (.cells #[.int .i64 f.vars, .slice base f.clauses.length cap] 26)) 0 (.slice none 0 0)).ext hE1; simpa using this); obtain ⟨p0, p1⟩ := hB1.cells)
  have hEw : Ext w w1 := Ext.trans (by repeat (first | exact Ext.refl _ | assumption | apply Ext.dn | apply Ext.drew | apply Ext.alloc)) hE1
  go_loopw [6] (fun i wr => ∃ k : Nat, i = .int .i64 k ∧ k ≤ to.length ∧ Drew w1 wr) (fun i _ => to.length - (intOf i).toNat)
  case atStart => exact ⟨0, rfl, Nat.zero_le _, .refl _⟩
  case round =>
    obtain ⟨k, rfl, hk, hd⟩ := hrel
    obtain ⟨p0', p1'⟩ := (hB1.ext hd.ext).cells
    have hEr := hEw.trans hd.ext
    by_cases hlt : k < to.length
    · obtain ⟨b, off, rfl, hbl, hcs⟩ := htcell k hlt
      obtain ⟨x, hx, hxc⟩ := hcs k hlt
      have hxc0 := hxc _ hEr
      obtain ⟨hf1, hf2⟩ := HTO.out.fresh hx
      have hxa := HTO.out.abs hx
      have hxb : -12 ≤ x ∧ x ≤ 12 ∧ x ≠ 0 ∧ -f.vars ≤ x ∧ x ≤ f.vars := by have := HLEN.out; unfold absI at hxa; split at hxa <;> omega
      have hlit : litB f.vars x = true := by simp [litB, inB]; omega
      have hI : ∀ w', Ext w w' → Ints w' (.slice (some ⟨b, off, none⟩) k tc) (to.take k) := fun w' h => (ht.ext h).hi rfl hk
      have HA := Lib.hid hxa
      clear hxa hx hxc hcs htcell
      go_wp2
      go_quiet (first
        | (go_at_call 137; exact Calls.quiet_of_same ((l2Has_any _ _ (-x) _ (hI _ (hEr.trans (by repeat (first | exact Ext.refl _ | assumption | apply Ext.dn | apply Ext.drew | apply Ext.alloc))))).mono (fun _ _ h => ⟨h.1.trans (ret_bool hf2), h.2.symm⟩)))
        | (go_at_call 137; exact Calls.quiet_of_same ((l2Has_any _ _ x _ (hI _ (hEr.trans (by repeat (first | exact Ext.refl _ | assumption | apply Ext.dn | apply Ext.drew | apply Ext.alloc))))).mono (fun _ _ h => ⟨h.1.trans (ret_bool hf1), h.2.symm⟩)))
        | (go_at_call 141; exact Calls.quiet_of_same ((l2Lit_any _ _ _ (by omega) (by omega)).mono (fun _ _ h => ⟨h.1.trans (ret_bool hlit), h.2.symm⟩))))
      all_goals
        go_wp2
        exact ⟨⟨k + 1, rfl, hlt, hd.more _⟩, by simp [intOf]; omega⟩
    · have HTC := Lib.hid htcell
      clear htcell
      obtain ⟨nd, rfl⟩ := hd
      have hRF0 : RF w1 (((w1.drewN nd).alloc (.cells #[] 33)).alloc (.cells #[.int .i64 f.vars, .slice (some ⟨w1.heap.size, 0, none⟩) 0 0] 26)) (w1.heap.size + 1) f.vars (.slice (some ⟨w1.heap.size, 0, none⟩) 0 0) [] := by
        refine ⟨(by repeat (first | exact Ext.refl _ | assumption | apply Ext.dn | apply Ext.drew | apply Ext.alloc)), ?_, ?_, by omega, ?_⟩
        · have := CBlk.made ((w1.drewN nd).alloc (.cells #[] 33)) f.vars (.slice (some ⟨w1.heap.size, 0, none⟩) 0 0)
          simpa using this
        · exact ((OwnL.empty (w1.drewN nd) w1.heap.size (by simp)).ext (by repeat (first | exact Ext.refl _ | assumption | apply Ext.dn | apply Ext.drew | apply Ext.alloc)))
        · simp [Value.ownBlock]
      go_wp2
      go_loopw [8, 9, 10, 11, 12] (fun i c j l nx wr => ∃ (k : Nat) (cv' : Value) (clk : List (List Int)), i = .int .i64 k ∧ k ≤ f.clauses.length ∧ RF w1 wr (w1.heap.size + 1) f.vars cv' clk ∧ clk = (f.clauses.take k).map (renC to)) (fun i _ _ _ _ _ => f.clauses.length - (intOf i).toNat)
      case atStart => exact ⟨0, _, [], rfl, Nat.zero_le _, hRF0, rfl⟩
      case round =>
        obtain ⟨k2, cv', clk, rfl, hk2, hRF, hclk⟩ := hrel
        have HCLK := Lib.hid hclk
        have hclkl : clk.length ≤ 100 := by rw [hclk, List.length_map, List.length_take]; have := hg; simp only [goodCnf, Bool.and_eq_true, decide_eq_true_eq] at this; omega
        clear hclk
        obtain ⟨cb, cc, rfl, _, _⟩ := hRF.own.form
        obtain ⟨s0, s1⟩ := (hB1.ext hRF.ext).cells
        obtain ⟨z0, z1⟩ := hRF.blk.cells
        have zf1 := hRF.blk.frozen 1
        have hEr2 := hEw.trans hRF.ext
        have hsz2 := hEr2.size
        by_cases hlt2 : k2 < f.clauses.length
        · obtain ⟨b, off, rfl, hbl, hcs⟩ := hcell k2 hlt2
          obtain ⟨c, u, hc, hu⟩ := hcs k2 hlt2
          have hok := OkC.of (goodCnf_at hg hc)
          have hcl12 := clauseB_len (goodCnf_at hg hc)
          have HC := Lib.hid (take_succ_at hc)
          have hu' := hu
          obtain ⟨hu0, huI⟩ := hu _ hEr2
          obtain ⟨ub, uc, rfl, _, _, hlc⟩ := huI.open
          have HLC := Lib.hid hlc
          have HOK := Lib.hid hok
          clear hlc hok
          have huC : ∀ w', Ext w w' → w'.cell? ⟨b, off + k2, none⟩ = some (.slice ub c.length uc) := fun w' h => (hu' w' h).1
          clear hc hcs hcell hu
          go_wp2
          go_loopw [9, 10, 11, 12] (fun o j l nx w3 => ∃ (q : Nat) (acc : List Int), j = .int .i64 q ∧ q ≤ c.length ∧ OwnI w3 wr.heap.size o acc ∧ Ext wr w3 ∧ acc = (c.take q).map (renI to)) (fun _ j _ _ _ => c.length - (intOf j).toNat)
          case atStart => exact ⟨0, [], rfl, Nat.zero_le _, OwnI.empty _ _ (Nat.le_refl _), (by repeat (first | exact Ext.refl _ | assumption | apply Ext.dn | apply Ext.drew | apply Ext.alloc)), rfl⟩
          case round =>
            obtain ⟨q, acc, rfl, hq, hown3, hE3, hacc⟩ := hrel
            have HACC := Lib.hid hacc
            clear hacc
            obtain ⟨ob, oc, rfl, _, _, _⟩ := hown3.ints.open
            obtain ⟨t0, t1⟩ := (hB1.ext (hRF.ext.trans hE3)).cells
            have hEw3 := hEr2.trans hE3
            have huc3 := huC _ hEw3
            by_cases hq2 : q < c.length
            · obtain ⟨b3, off3, rfl, hb3, hl3⟩ := HLC.out q hq2
              obtain ⟨l, hl, hlcell⟩ := hl3 q hq2
              have hl0 := hlcell _ hE3
              obtain ⟨hlne, hl1, hl2⟩ := HOK.out.1 l (List.mem_of_getElem? hl)
              obtain ⟨hra, x, hx, hre⟩ := HTO.out.ren hlne ⟨hl1, hl2⟩
              obtain ⟨p, hp⟩ : ∃ p : Nat, absI l = (p : Int) + 1 := ⟨(absI l - 1).toNat, by unfold absI; split <;> omega⟩
              have hpe : (absI l - 1).toNat = p := by omega
              rw [hpe] at hx
              have hpl : p < to.length := (List.getElem?_eq_some_iff.1 hx).1
              obtain ⟨bt, offt, rfl, hbt, hts⟩ := HTC.out p hpl
              obtain ⟨x', hx', hxc'⟩ := hts p hpl
              have hxx : x' = x := by rw [hx] at hx'; injection hx' with e; exact e.symm
              subst hxx
              have hx0 := hxc' _ hEw3
              have hax := HTO.out.abs hx'
              have hxb : -13 ≤ x' ∧ x' ≤ 13 := by have := HLEN.out; unfold absI at hax; split at hax <;> omega
              have hlen3 : acc.length ≤ 12 := by rw [HACC.out, List.length_map, List.length_take]; omega
              have hbd3 : ∀ y ∈ acc, absI y < absI (renI to l) ∧ -12 ≤ y ∧ y ≤ 12 := by
                intro y hy
                rw [HACC.out] at hy
                obtain ⟨l', hl', rfl⟩ := List.mem_map.1 hy
                have hm : l' ∈ c := List.mem_of_mem_take hl'
                obtain ⟨hn', h1', h2'⟩ := HOK.out.1 l' hm
                obtain ⟨hra', _⟩ := HTO.out.ren hn' ⟨h1', h2'⟩
                have hlt : absI l' < absI l := by
                  obtain ⟨j, hj, rfl⟩ := List.mem_iff_getElem.1 hl'
                  rw [List.length_take] at hj
                  rw [List.getElem_take]
                  obtain ⟨hql, rfl⟩ := List.getElem?_eq_some_iff.1 hl
                  exact (List.pairwise_iff_getElem.1 HOK.out.2) j q (by omega) hql (by omega)
                refine ⟨by rw [hra, hra']; exact hlt, ?_⟩
                have : absI (renI to l') ≤ 12 := by rw [hra']; unfold absI; split <;> omega
                unfold absI at this
                split at this <;> omega
              have HPUT := Lib.hid (show putL acc (renI to l) = (c.take (q + 1)).map (renI to) by rw [putL_end _ _ (fun y hy => (hbd3 y hy).1), HACC.out, take_succ_at hl, List.map_append]; rfl)
              have HB3 := Lib.hid (show BdI acc from fun y hy => by have := (hbd3 y hy).2; omega)
              have HRE := Lib.hid hre
              clear hbd3 hxc' hts hlcell hl3 hre hra hax hx hx' hpe hl
              by_cases hneg : l < 0
              · have hre := HRE.out
                rw [if_pos hneg] at hre
                rw [hre] at HPUT
                clear hre
                go_wp2_with (first
                  | (go_at_call 139; refine (l2Var_any l _ (by omega) (by omega)).mono ?_; rw [hp]; rintro e w4 ⟨rfl, rfl⟩)
                  | (go_at_call 133; refine (l2Put_any _ _ (-x') _ hown3.ints (by omega) HB3.out (by omega) (by omega)).mono ?_; rw [HPUT.out]; rintro e w5 ⟨r5, rfl, ho5, he5⟩))
                exact ⟨⟨q + 1, _, rfl, hq2, ho5.mono hE3.size, hE3.trans he5, rfl⟩, by simp [intOf]; omega⟩
              · have hre := HRE.out
                rw [if_neg hneg] at hre
                rw [hre] at HPUT
                clear hre
                go_wp2_with (first
                  | (go_at_call 139; refine (l2Var_any l _ (by omega) (by omega)).mono ?_; rw [hp]; rintro e w4 ⟨rfl, rfl⟩)
                  | (go_at_call 133; refine (l2Put_any _ _ x' _ hown3.ints (by omega) HB3.out (by omega) (by omega)).mono ?_; rw [HPUT.out]; rintro e w5 ⟨r5, rfl, ho5, he5⟩))
                exact ⟨⟨q + 1, _, rfl, hq2, ho5.mono hE3.size, hE3.trans he5, rfl⟩, by simp [intOf]; omega⟩
            · have hRF3 := hRF.more hE3
              obtain ⟨z0', z1'⟩ := hRF3.blk.cells
              have HQE := Lib.hid (show acc = renC to c by rw [HACC.out, List.take_of_length_le (by omega)]; rfl)
              have hsz3 := hE3.size
              go_wp2_with (at_builtin; refine wpList_appL rfl _ _ rfl w1.heap.size _ _ clk [acc] rfl rfl (hRF3.own.ext (by repeat (first | exact Ext.refl _ | assumption | apply Ext.dn | apply Ext.drew | apply Ext.alloc))) (lists_one hown3.ints) (by simp; omega) (by have := hRF3.ext.size; simp; omega) ?_; intro v' w4 ho4 hg4 hat4; obtain ⟨vb, vc, rfl, _, _⟩ := ho4.form; have hP4 := (hRF3.more (by repeat (first | exact Ext.refl _ | assumption | apply Ext.dn | apply Ext.drew | apply Ext.alloc))).push ho4 hg4 hat4; have z71' := (hRF3.blk.ext (by repeat (first | exact Ext.refl _ | assumption | apply Ext.dn | apply Ext.drew | apply Ext.alloc))).grown hg4 hRF3.ne; have z72 := z71'.frozen 1; obtain ⟨y70, y71⟩ := z71'.cells)
              exact ⟨⟨k2 + 1, _, clk ++ [acc], rfl, hlt2, (by simpa only [List.length_append, List.length_cons, List.length_nil, Nat.zero_add] using hP4), by rw [HC.out, List.map_append, HCLK.out, HQE.out]; rfl⟩, by simp [intOf]; omega⟩
        · have hke : k2 = f.clauses.length := by omega
          have HE := Lib.hid (show clk = f.clauses.map (renC to) by rw [HCLK.out, hke, List.take_length])
          clear hke
          have hB4' := hB4.ext hRF.ext
          obtain ⟨g0, g1⟩ := hB4'.cells
          have gf0 := hB4'.frozen 0
          have gf1 := hB4'.frozen 1
          have hne4 : (Value.slice cb clk.length cc).ownBlock ≠ some (w.heap.size + 1) := fun e => by have := (hRF.own.lt _ e).1; have := hB4.lt; omega
          obtain ⟨hb, ho, hg4⟩ := hB4'.store (n := f.vars) hRF.own hne4
          go_wp2
          refine bodyPost_ret (results_cell_row2 rfl _ _ (w.heap.size + 1) _ _ _ _ rfl hb Tryz.underlying26 rfl (by kernel_rfl)) rfl ?_
          refine ⟨_, rfl, ?_, Below.grown hEr2 hg4 hEr2.size (fun k hk => by injection hk with hk; omega)⟩
          rw [← HE.out]
          exact ho.mono hEw.size
end Go.Proofs.YtfnjhodologfeaaGreat
/- drawers that build a Cnf: the frame; append to an own row of slices in a region that draws -/
namespace Go.Proofs.YtfnjhodologfeaaGreat
open Go.RowKit

theorem step_appL {w : World} {ops : Array Oper} {o : Oper} {a : Act} {K : Act → World → Prop} {Q : Exit → Act → World → Prop} {E : Prop} (hgd : o.guard = none) (s x : Operand)
    (ho : o.op = .call { callee := .builtin .append, args := #[s, x], argTypes := #[24, 24] })
    (B : Nat) (v vx : Value) (xs ys : List (List Int)) (hsv : a.eval s = v) (hxv : a.eval x = vx) (hown : OwnL w B v xs) (hs : Lists w vx ys) (hlen : xs.length + ys.length ≤ 1099511627776) (hB : B ≤ w.heap.size)
    (h : ∀ v' w', OwnL w' B v' (xs ++ ys) → w.grownBy w' v.ownBlock → (v'.ownBlock = v.ownBlock ∨ v'.ownBlock = some w.heap.size) → K (a.put o.dst v') w') :
    if Region.wanted o (yielded ops a.tmps) = true then Oper.wp Tryz.prog o a w K Q else E := by
  have hw : Region.wanted o (yielded ops a.tmps) = true := by simp [Region.wanted, hgd]
  rw [if_pos hw]
  obtain ⟨i, hi, hz0, hz1, hz2⟩ := info_parts Tryz.infoL
  obtain ⟨cvs, h1, h2, h3⟩ := hown
  obtain ⟨cys, k1, k2, k3⟩ := hs
  have hone : ∀ x ∈ cys, x.oneCell' = true := by
    intro u hu
    obtain ⟨j, hj, rfl⟩ := List.mem_iff_getElem.1 hu
    exact (k3 j _ _ (List.getElem?_eq_getElem hj) (List.getElem?_eq_getElem (by omega))).one
  obtain ⟨v', w', hrun, g2, g3, g4⟩ := run_append_sl (P := Tryz.prog) w B 24 o.type 33 i (.slice none 0 0) 1 24 Tryz.underlying24 hi hz0 hz1 hz2 rfl (by decide) v xs.length cvs h2 vx ys.length 33 cys k2 hone
    (by simp only [maxLen]; omega) (by omega) hB
  unfold Oper.wp execOp
  simp only [ho, resolve, invoke, builtin, Sem.run_bind, Sem.run_pure, Result.andThen_ok, List.map_toArray, List.map_cons, List.map_nil, hsv, hxv, hrun]
  have hT : ∀ b, v.ownBlock = some b → ∃ cur fz T, w.heap[b]? = some (.cells cur T fz) ∧ T ≠ 3 := fun b hb => by
    obtain ⟨cur, fz, h5⟩ := ownsRow_type h2 b hb
    exact ⟨cur, fz, _, h5, by decide⟩
  refine h v' w' ⟨cvs ++ cys, by simp [h1, k1], by rw [List.length_append]; exact g2, ?_⟩ g3 g4
  intro j u l hu hl
  by_cases hj : j < xs.length
  · rw [List.getElem?_append_left (by omega)] at hu
    rw [List.getElem?_append_left (by omega)] at hl
    exact (h3 j u l hu hl).turned g3 hT
  · rw [List.getElem?_append_right (by omega), h1] at hu
    rw [List.getElem?_append_right (by omega)] at hl
    exact (k3 _ u l hu hl).turned g3 hT

/-- a drawer's frame with a Cnf's block b and its own list of clauses -/
structure CF (g m : Nat) (w0 wr : World) (b : Nat) (n : Int) (cv : Value) (cl : List (List Int)) : Prop where
  dr : Dr g m w0 wr
  blk : CBlk wr b n cv
  own : OwnL wr w0.heap.size cv cl
  ge : w0.heap.size ≤ b
  ne : cv.ownBlock ≠ some b
theorem CF.ext {g m : Nat} {w0 wr wr' : World} {b : Nat} {n : Int} {cv : Value} {cl : List (List Int)} (h : CF g m w0 wr b n cv cl) (hx : Ext wr wr') : CF g m w0 wr' b n cv cl :=
  ⟨h.dr.ext hx, h.blk.ext hx, h.own.ext hx, h.ge, h.ne⟩
theorem CF.mono {g m m' : Nat} {w0 wr : World} {b : Nat} {n : Int} {cv : Value} {cl : List (List Int)} (h : CF g m w0 wr b n cv cl) (hm : m ≤ m') : CF g m' w0 wr b n cv cl := ⟨h.dr.mono hm, h.blk, h.own, h.ge, h.ne⟩
theorem CF.draw {g m m' : Nat} {w0 wr wr' : World} {b : Nat} {n : Int} {cv : Value} {cl : List (List Int)} (h : CF g m w0 wr b n cv cl) (hk : Keep g wr wr') (hc : Cur wr' g m') : CF g m' w0 wr' b n cv cl :=
  ⟨h.dr.draw hk hc, h.blk.grown hk (fun e => by injection e with e; have := h.ge; have := h.dr.lt; omega), h.own.keep h.dr.cur hk h.dr.lt, h.ge, h.ne⟩
theorem Dr.setBlk {g m : Nat} {w0 w : World} (h : Dr g m w0 w) {b : Nat} {n : Int} {cv : Value} (hb : CBlk w b n cv) (hge : w0.heap.size ≤ b) (j : Nat) (x : Value) : Dr g m w0 (w.setCell ⟨b, j, none⟩ x) := by
  have hg := grown_set w b j x
  refine ⟨h.lt, ⟨hg.os.trans h.keep.os, hg.tape.trans h.keep.tape, hg.output.trans h.keep.output, Nat.le_trans h.keep.size hg.size, ?_⟩, ?_⟩
  · intro k hk hkg
    have hs := h.keep.size
    rw [World.grownBy.block hg k (Nat.lt_of_lt_of_le hk hs) (fun e => by injection e with e; omega)]
    exact World.grownBy.block h.keep k hk hkg
  · obtain ⟨u, bs, a, sd, h1, h2, h3, h4⟩ := h.cur
    refine ⟨u, bs, a, sd, ?_, h2.turned hg (fun T0 hg0 => hb.type (goodT_ne hg0 (by decide))), h3, h4⟩
    rw [World.grownBy.block hg g h.cur.lt (fun e => by injection e with e; have := h.lt; omega)]
    exact h1
theorem CF.push {g m : Nat} {w0 wr wr' : World} {b : Nat} {n : Int} {cv cv' : Value} {cl cl' : List (List Int)} (h : CF g m w0 wr b n cv cl) (ho : OwnL wr' w0.heap.size cv' cl') (hg : wr.grownBy wr' cv.ownBlock) (hb : cv'.ownBlock = cv.ownBlock ∨ cv'.ownBlock = some wr.heap.size) :
    CF g m w0 (wr'.setCell ⟨b, 1, none⟩ cv') b n cv' cl' := by
  have hg7 := grown_set wr' b 1 cv'
  have r7' := h.blk.grown hg h.ne
  have ne7' : cv'.ownBlock ≠ some b := by
    rcases hb with hb | hb
    · rw [hb]; exact h.ne
    · rw [hb]; intro e; injection e with e; have := h.blk.lt; omega
  exact ⟨(h.dr.appL h.own (Nat.le_refl _) hg).setBlk r7' h.ge 1 cv', r7'.set1 cv', ho.beside hg7 (fun k hk => by injection hk with hk; subst hk; exact ne7') (r7'.type (by decide)), h.ge, ne7'⟩
theorem CF.setV {g m : Nat} {w0 wr : World} {b : Nat} {n : Int} {cv : Value} {cl : List (List Int)} (h : CF g m w0 wr b n cv cl) (x : Int) : CF g m w0 (wr.setCell ⟨b, 0, none⟩ (.int .i64 x)) b x cv cl :=
  ⟨h.dr.setBlk h.blk h.ge 0 _, h.blk.set0 x, h.own.beside (grown_set wr b 0 _) (fun k hk => by injection hk with hk; subst hk; exact h.ne) (h.blk.type (by decide)), h.ge, h.ne⟩
theorem CF.store {g m : Nat} {w0 wr : World} {b B : Nat} {n n' : Int} {cv cv' : Value} {cl cl' : List (List Int)} (h : CF g m w0 wr b n cv cl) (ho : OwnL wr B cv' cl') (hB : w0.heap.size ≤ B) (hne : cv'.ownBlock ≠ some b) :
    CF g m w0 ((wr.setCell ⟨b, 0, none⟩ (.int .i64 n')).setCell ⟨b, 1, none⟩ cv') b n' cv' cl' := by
  obtain ⟨h1, h2, h3⟩ := h.blk.store (n := n') ho hne
  exact ⟨(h.dr.setBlk h.blk h.ge 0 _).setBlk (h.blk.set0 n') h.ge 1 _, h1, h2.mono hB, h.ge, hne⟩
theorem clauseB_of {vars : Int} {c : List Int} (h : OkC vars c) (hv : inB vars 0 12 = true) : clauseB vars c = true := by
  have key : ∀ k, k ≤ c.length → okTo vars c k = true := by
    intro k
    induction k with
    | zero => intro _; rfl
    | succ k ih =>
      intro hk
      have h0 := h.1 c[k] (List.getElem_mem (by omega))
      have hl : litB vars c[k] = true := by simp [litB, inB]; omega
      simp only [okTo, ih (by omega), Bool.true_and, stepOk, List.getElem?_eq_getElem (show k < c.length by omega), hl]
      cases k with
      | zero => rfl
      | succ k =>
        have := (List.pairwise_iff_getElem.1 h.2) k (k + 1) (by omega) (by omega) (by omega)
        simp only [List.getElem?_eq_getElem (show k < c.length by omega)]
        simpa using this
  unfold clauseB
  rw [hv, key _ (Nat.le_refl _)]
  rfl
end Go.Proofs.YtfnjhodologfeaaGreat
