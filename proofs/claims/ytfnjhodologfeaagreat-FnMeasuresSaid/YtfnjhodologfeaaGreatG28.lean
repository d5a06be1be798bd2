/- Parts of the proof: D13. hard -/
import Derived.Test.YtfnjhodologfeaaGreatG27
import Derived.Deep.RegionLaw
set_option linter.unusedSimpArgs false
set_option linter.unusedVariables false
/- hard -/
namespace Go.Proofs.YtfnjhodologfeaaGreat
open Go.RowKit

/-- a Cnf that hard draws -/
def HardP (f : CNF) : Prop := ∃ (cl ext : List (List Int)) (to : List Int), f.clauses = cl.map (renC to) ++ ext ∧ RenP to f.vars ∧ 0 ≤ f.vars ∧ f.vars ≤ 4 ∧ cl.length ≤ 10 ∧ (∀ c ∈ cl, clauseB f.vars c = true) ∧
  (f.vars = 4 → cl = [[1, 2], [3, 4], [-1, -3], [-2, -4], [-1, -4], [-2, -3]] ∨ cl = [[1], [2], [-1, -2, 3], [-3, 4], [-4]]) ∧ ext.length ≤ 2 ∧ ∀ c ∈ ext, clauseB f.vars c = true
theorem hardL_size : ∀ s ∈ hardL, s.size ≤ 10000 := by decide
theorem goodCnf_of {n : Int} {cl : List (List Int)} (hv : inB n 0 12 = true) (hl : cl.length ≤ 60) (h : ∀ c ∈ cl, clauseB n c = true) : goodCnf ⟨n, cl⟩ = true := by
  have key : ∀ k, k ≤ cl.length → allTo n cl k = true := by
    intro k
    induction k with
    | zero => intro _; rfl
    | succ k ih =>
      intro hk
      have hc : cl[k]? = some (cl[k]'(by omega)) := List.getElem?_eq_getElem (by omega)
      exact allTo_succ hc (h _ (List.getElem_mem _)) (ih (by omega))
  unfold goodCnf
  rw [hv, key _ (Nat.le_refl _)]
  simpa using hl

set_option maxRecDepth 100000 in
set_option maxHeartbeats 4000000 in
theorem hard_any (g m : Nat) (w : World) (hc : Cur w g m) (hm : m ≤ 1000000) :
    Calls Tryz.prog 87 #[.pointer (some ⟨g, 0, none⟩)] w fun e w' => ∃ (n : Int) (cv : Value), e = .returned (.agg #[.int .i64 n, cv]) ∧ ∃ f : CNF, f.vars = n ∧ OwnL w' w.heap.size cv f.clauses ∧ HardP f ∧ Dr g (m + 100) w w' := by
  have hgl := hc.lt
  obtain ⟨wA, hwA⟩ : ∃ wA, w.alloc (.cells #[.int .i64 0, .slice none 0 0] 26) = wA := ⟨_, rfl⟩
  have hcA : Cur wA g m := by rw [← hwA]; exact hc.ext (by repeat (first | exact Ext.refl _ | assumption | apply Ext.dn | apply Ext.drew | apply Ext.alloc))
  have hR : CBlk wA w.heap.size 0 (.slice none 0 0) := by rw [← hwA]; exact CBlk.made _ _ _
  have hszA : wA.heap.size = w.heap.size + 1 := by rw [← hwA]; simp
  have hEA : Ext w wA := by rw [← hwA]; exact (by repeat (first | exact Ext.refl _ | assumption | apply Ext.dn | apply Ext.drew | apply Ext.alloc))
  go_enter Tryz.func87, Tryz.ntmps87
  go_wp2_with (first | (simp only [hwA]; (go_at_call 117; refine (l2Hard_any _).mono ?_; rintro e w1 ⟨r1, rfl, hst, hx1⟩)) | (go_at_call 117; refine (l2Hard_any _).mono ?_; rintro e w1 ⟨r1, rfl, hst, hx1⟩) | (go_at_call 116; refine (of_any g m _ _ hardL (hcA.ext hx1) (by omega) hst (by decide)).mono ?_; rintro e w2 ⟨t, rfl, ht, hk2, hc2⟩) | (go_at_call 115; refine (l2Known_any t _ (hardL_size t ht)).mono ?_; rintro e w3 ⟨n, cv, rfl, cl, hown, hkp, hx3⟩; obtain ⟨hn0, hn4, hcl10, hclv, hfour⟩ := hard_known ht hkp; have HKP := Lib.hid hfour; have HCV := Lib.hid hclv; clear hfour hclv hkp; obtain ⟨cb, cc, rfl, _, _⟩ := hown.form))
  have hs1 := hx1.size
  have hs2 := hk2.size
  have hs3 := hx3.size
  obtain ⟨w4, hw4⟩ : ∃ w4, w3.alloc (.cells #[.int .i64 n, .slice cb cl.length cc] 26) = w4 := ⟨_, rfl⟩
  have hCF4 : CF g (m + 2) wA w4 w3.heap.size n (.slice cb cl.length cc) cl := by
    rw [← hw4]
    exact ⟨(((((Dr.start hcA).ext hx1).draw hk2 hc2).ext hx3).ext (by repeat (first | exact Ext.refl _ | assumption | apply Ext.dn | apply Ext.drew | apply Ext.alloc))), CBlk.made _ _ _, (hown.mono (by omega)).ext (by repeat (first | exact Ext.refl _ | assumption | apply Ext.dn | apply Ext.drew | apply Ext.alloc)), by omega, fun e => by have := (hown.lt _ e).2; omega⟩
  have hs4 : w4.heap.size = w3.heap.size + 1 := by rw [← hw4]; simp
  have hto0 : OwnI (w4.alloc (.cells #[] 3)) w4.heap.size (.slice (some ⟨w3.heap.size + 1, 0, none⟩) 0 0) [] := by
    have := OwnI.empty w4 w4.heap.size (Nat.le_refl _)
    rw [hs4] at this ⊢
    exact this
  have hLI := (Dr.start hCF4.dr.cur).ext ((Ext.refl w4).alloc (.cells #[] 3))
  rw [hw4]
  clear hown hw4
  go_loopw [4, 5] (fun o i wr => ∃ (k : Nat) (to : List Int), i = .int .i64 ((k : Int) + 1) ∧ (k : Int) ≤ n ∧ OwnI wr w4.heap.size o to ∧ to.length = k ∧ (∀ (i : Nat) (x : Int), to[i]? = some x → x = (i : Int) + 1 ∨ x = -((i : Int) + 1)) ∧ Dr g (m + 2 + 2 * k) w4 wr) (fun _ i _ => (n + 1 - intOf i).toNat)
  case atStart => exact ⟨0, [], rfl, hn0, hto0, rfl, by simp, hLI⟩
  case round =>
    obtain ⟨k, to, rfl, hk, hto, htl, hren, hdr⟩ := hrel
    have HREN := Lib.hid hren
    have HTL := Lib.hid htl
    clear hren htl
    obtain ⟨ob, oc, rfl, _, _, _⟩ := hto.ints.open
    have hCF := (hCF4.draw hdr.keep hdr.cur)
    obtain ⟨c0, c1⟩ := hCF.blk.cells
    have hsr := hdr.size
    have hdl := hdr.lt
    by_cases hlt : (k : Int) + 1 ≤ n
    · have htl2 : to.length ≤ 100 := by have := HTL.out; omega
      go_wp2_with (first
        | (go_at_call 86; refine (one_any g (m + 2 + 2 * k) _ _ (hdr.cur.ext (by repeat (first | exact Ext.refl _ | assumption | apply Ext.dn | apply Ext.drew | apply Ext.alloc))) (by omega)).mono ?_; rintro e w5 ⟨b5, rfl, hk5, hc5⟩; have hto5 := hto.keep hk5 hdl; have hdr5 := hdr.draw hk5 hc5)
        | (at_builtin; refine wpList_appI rfl _ _ rfl w4.heap.size _ _ to [-((k : Int) + 1)] rfl rfl (hto5.ext (by repeat (first | exact Ext.refl _ | assumption | apply Ext.dn | apply Ext.drew | apply Ext.alloc))) (ints_one _ _) (by simp; omega) (by have := hdr5.size; simp; omega) ?_; intro v' w6 ho6 hg6 _; have hdr6 := (hdr5.ext (by repeat (first | exact Ext.refl _ | assumption | apply Ext.dn | apply Ext.drew | apply Ext.alloc))).appI (hto5.ext (by repeat (first | exact Ext.refl _ | assumption | apply Ext.dn | apply Ext.drew | apply Ext.alloc))) (Nat.le_refl _) hg6)
        | (at_builtin; refine wpList_appI rfl _ _ rfl w4.heap.size _ _ to [(k : Int) + 1] rfl rfl (hto5.ext (by repeat (first | exact Ext.refl _ | assumption | apply Ext.dn | apply Ext.drew | apply Ext.alloc))) (ints_one _ _) (by simp; omega) (by have := hdr5.size; simp; omega) ?_; intro v' w6 ho6 hg6 _; have hdr6 := (hdr5.ext (by repeat (first | exact Ext.refl _ | assumption | apply Ext.dn | apply Ext.drew | apply Ext.alloc))).appI (hto5.ext (by repeat (first | exact Ext.refl _ | assumption | apply Ext.dn | apply Ext.drew | apply Ext.alloc))) (Nat.le_refl _) hg6))
      all_goals
        refine ⟨⟨k + 1, to ++ [_], rfl, by omega, ho6, by simp [HTL.out], ?_, hdr6.mono (by omega)⟩, by simp [intOf]; omega⟩
        intro i x hix
        rw [List.getElem?_append] at hix
        split at hix
        · exact HREN.out i x hix
        · have hi0 := (List.getElem?_eq_some_iff.1 hix).1
          simp at hi0
          have hik : i = k := by have := HTL.out; omega
          have : i - to.length = 0 := by omega
          rw [this] at hix
          simp at hix
          subst hix
          first | exact .inr (by omega) | exact .inl (by omega)
    · have hkn : (k : Int) = n := by omega
      have hin : inB n 0 12 = true := by simp [inB]; omega
      have hgood : goodCnf ⟨n, cl⟩ = true := goodCnf_of hin (by omega) HCV.out
      have hRen : RenP to n := ⟨by rw [HTL.out]; exact hkn, HREN.out⟩
      have HREN2 := Lib.hid hRen
      obtain ⟨CL, hCL⟩ : ∃ CL, cl.map (renC to) = CL := ⟨_, rfl⟩
      have hCLl : CL.length ≤ 10 := by rw [← hCL, List.length_map]; exact hcl10
      have HCL := Lib.hid hCL
      clear hCL
      have HGOOD := Lib.hid hgood
      have hf0 := hCF.blk.frozen 0
      have hf1 := hCF.blk.frozen 1
      have hm5 : m + 2 + 2 * k ≤ m + 10 := by omega
      have hCF' := hCF.mono hm5
      clear hkn hgood hRen hCF4 hLI hto0
      go_wp2_with (first
        | (go_at_call 118; refine (RenameCnf_any _ _ ⟨n, cl⟩ to _ ⟨_, rfl, (hCF.own.lists.ext (by repeat (first | exact Ext.refl _ | assumption | apply Ext.dn | apply Ext.drew | apply Ext.alloc)))⟩ (hto.ints.ext (by repeat (first | exact Ext.refl _ | assumption | apply Ext.dn | apply Ext.drew | apply Ext.alloc))) HGOOD.out HREN2.out).mono ?_; rintro e w5 ⟨cv5, rfl, ho5', hx5⟩; have ho5 : OwnL w5 _ cv5 CL := (by have h := ho5'; rw [show (CNF.mk n cl).clauses.map (renC to) = CL from HCL.out] at h; exact h); clear ho5'; have hC5 := hCF'.ext hx5; have hne5 : cv5.ownBlock ≠ some w3.heap.size := (fun e => by have := (ho5.lt _ e).1; omega); obtain ⟨vb, vc, rfl, _, _⟩ := ho5.form; obtain ⟨d0, d1⟩ := hC5.blk.cells; have df0 := hC5.blk.frozen 0; have df1 := hC5.blk.frozen 1; have hC6 := hC5.store (n' := n) ho5 (by have := hCF'.dr.size; omega) hne5; obtain ⟨e0, e1⟩ := hC6.blk.cells)
        | (go_at_call 89; refine (pick_any g (m + 10) _ _ hC6.dr.cur (by omega)).mono ?_; rintro e w7 ⟨q, rfl, hq0, hq1, hk7, hc7⟩; have hC7 := hC6.draw hk7 hc7))
      have hq3 : 0 ≤ q ∧ q ≤ 2 := by omega
      go_loopw [6] (fun i wr => ∃ (p : Int) (cv2 : Value) (ext : List (List Int)), i = .int .i64 p ∧ 0 ≤ p ∧ ext.length + p ≤ 2 ∧ CF g (m + 12 + 20 * ext.length) wA wr w3.heap.size n cv2 (CL ++ ext) ∧ ∀ c ∈ ext, clauseB n c = true) (fun i _ => (intOf i).toNat)
      case atStart => exact ⟨q, _, [], rfl, hq3.1, by simp; omega, by rw [List.append_nil]; exact hC7, by simp⟩
      case round =>
        obtain ⟨p, cv2, ext, rfl, hp0, hp2, hCx, hext⟩ := hrel
        have HEXT := Lib.hid hext
        clear hext
        have hxl : ext.length ≤ 2 := by omega
        obtain ⟨CE, hCE⟩ : ∃ CE, CL ++ ext = CE := ⟨_, rfl⟩
        have HCE := Lib.hid hCE
        have hCEl : CE.length ≤ 20 := by rw [← hCE, List.length_append]; omega
        rw [hCE] at hCx
        clear hCE
        obtain ⟨cb2, cc2, rfl, _, _⟩ := hCx.own.form
        obtain ⟨c0, c1⟩ := hCx.blk.cells
        by_cases hp : p > 0
        · by_cases hnn : n > 0
          · go_wp2
            go_region_law (first
              | (refine step_appL rfl (.tmp 47) (.tmp 52) rfl wA.heap.size _ _ CE [c8] rfl rfl (hC8.own.ext (by repeat (first | exact Ext.refl _ | assumption | apply Ext.dn | apply Ext.drew | apply Ext.alloc))) (lists_one ho8.ints) (by simp; omega) (by have := hC8.dr.size; simp; omega) ?_; intro v' w9 ho9 hg9 hat9; obtain ⟨vb, vc, rfl, _, _⟩ := ho9.form; have hP9 := (hC8.ext (by repeat (first | exact Ext.refl _ | assumption | apply Ext.dn | apply Ext.drew | apply Ext.alloc))).push ho9 hg9 hat9; have z9 := (hC8.blk.ext (by repeat (first | exact Ext.refl _ | assumption | apply Ext.dn | apply Ext.drew | apply Ext.alloc))).grown hg9 hC8.ne; have z91 := z9.frozen 1; obtain ⟨d0, d1⟩ := z9.cells)
              | (go_simp; go_at_call 110; refine (cclause_any g (m + 12 + 20 * ext.length) _ n (hCx.dr.cur.ext (by repeat (first | exact Ext.refl _ | assumption | apply Ext.dn | apply Ext.drew | apply Ext.alloc))) (by omega) (by omega)).mono ?_; rintro e w8 ⟨r8, rfl, c8, ho8, hok8, hlen8, hk8, hc8⟩; obtain ⟨xb, xc, rfl, _, _, _⟩ := ho8.ints.open; have hC8 := (hCx.ext (by repeat (first | exact Ext.refl _ | assumption | apply Ext.dn | apply Ext.drew | apply Ext.alloc))).draw hk8 hc8; obtain ⟨d0, d1⟩ := hC8.blk.cells; have dA0 := (fun o => (hC8.ext ((Ext.refl w8).alloc o)).blk.cells.1); have dA1 := (fun o => (hC8.ext ((Ext.refl w8).alloc o)).blk.cells.2)))
            all_goals
              have e9 : (CE ++ [c8]).length = CE.length + 1 := by simp
              rw [e9] at hP9
              have hP10 := hP9.mono (show m + 12 + 20 * ext.length + 20 ≤ m + 12 + 20 * (ext ++ [c8]).length by simp; omega)
              rw [← HCE.out, List.append_assoc] at hP10
              rw [HCE.out] at hP10
              go_wp2
              refine ⟨⟨p - 1, _, ext ++ [c8], rfl, by omega, by simp; omega, hP10, ?_⟩, by simp [intOf]; omega⟩
              intro c hc
              rcases List.mem_append.1 hc with hc | hc
              · exact HEXT.out c hc
              · simp at hc
                subst hc
                exact clauseB_of hok8 (by simp [inB]; omega)
          · (have hR' := hR.grown hCx.dr.keep (fun e => by injection e with e; omega); obtain ⟨g0, g1⟩ := hR'.cells; have gf0 := hR'.frozen 0; have gf1 := hR'.frozen 1; have hneR : (Value.slice cb2 CE.length cc2).ownBlock ≠ some w.heap.size := (fun e => by have := (hCx.own.lt _ e).1; omega); obtain ⟨hb, ho, hg4⟩ := hR'.store (n := n) hCx.own hneR; have hDw := ((Dr.start hc).ext hEA).trans hCx.dr; have hDf := (hDw.setBlk hR' (Nat.le_refl _) 0 (.int .i64 n)).setBlk (hR'.set0 n) (Nat.le_refl _) 1 (.slice cb2 CE.length cc2); go_wp2; refine bodyPost_ret (results_cell_row rfl _ _ w.heap.size _ _ _ _ rfl hb Tryz.underlying26 rfl (by kernel_rfl)) rfl ?_; exact ⟨n, _, rfl, ⟨n, CE⟩, rfl, ho.mono (by omega), ⟨cl, ext, to, by rw [HCL.out]; exact HCE.out.symm, HREN2.out, hn0, hn4, hcl10, HCV.out, HKP.out, hxl, HEXT.out⟩, hDf.mono (by omega)⟩)
        · (have hR' := hR.grown hCx.dr.keep (fun e => by injection e with e; omega); obtain ⟨g0, g1⟩ := hR'.cells; have gf0 := hR'.frozen 0; have gf1 := hR'.frozen 1; have hneR : (Value.slice cb2 CE.length cc2).ownBlock ≠ some w.heap.size := (fun e => by have := (hCx.own.lt _ e).1; omega); obtain ⟨hb, ho, hg4⟩ := hR'.store (n := n) hCx.own hneR; have hDw := ((Dr.start hc).ext hEA).trans hCx.dr; have hDf := (hDw.setBlk hR' (Nat.le_refl _) 0 (.int .i64 n)).setBlk (hR'.set0 n) (Nat.le_refl _) 1 (.slice cb2 CE.length cc2); go_wp2; refine bodyPost_ret (results_cell_row rfl _ _ w.heap.size _ _ _ _ rfl hb Tryz.underlying26 rfl (by kernel_rfl)) rfl ?_; exact ⟨n, _, rfl, ⟨n, CE⟩, rfl, ho.mono (by omega), ⟨cl, ext, to, by rw [HCL.out]; exact HCE.out.symm, HREN2.out, hn0, hn4, hcl10, HCV.out, HKP.out, hxl, HEXT.out⟩, hDf.mono (by omega)⟩)
end Go.Proofs.YtfnjhodologfeaaGreat
