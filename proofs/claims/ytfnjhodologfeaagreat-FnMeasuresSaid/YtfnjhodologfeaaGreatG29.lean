/- Parts of the proof: D14. cnf -/
import Derived.Test.YtfnjhodologfeaaGreatG28
set_option linter.unusedSimpArgs false
set_option linter.unusedVariables false
/- cnf -/
namespace Go.Proofs.YtfnjhodologfeaaGreat
open Go.RowKit

/-- a Cnf that is drawn, within bounds -/
def DrawnC (f : CNF) : Prop := -1 ≤ f.vars ∧ f.vars ≤ 13 ∧ f.clauses.length ≤ 100 ∧ ∀ c ∈ f.clauses, c.length ≤ 12
theorem renC_length (to c : List Int) : (renC to c).length = c.length := by simp [renC]
theorem HardP.drawn {f : CNF} (h : HardP f) : DrawnC f := by
  obtain ⟨cl, ext, to, h1, h2, h3, h4, h5, h6, h7, h8, h9⟩ := h
  refine ⟨by omega, by omega, by rw [h1]; simp; omega, ?_⟩
  intro c hc
  rw [h1] at hc
  rcases List.mem_append.1 hc with hc | hc
  · obtain ⟨c', hc', rfl⟩ := List.mem_map.1 hc
    rw [renC_length]
    exact clauseB_len (h6 c' hc')
  · exact clauseB_len (h9 c hc)
theorem ints_five (w : World) (a b c d e : Int) : Ints (w.alloc (.cells #[.int .i64 a, .int .i64 b, .int .i64 c, .int .i64 d, .int .i64 e] 3)) (.slice (some ⟨w.heap.size, 0, none⟩) 5 5) [a, b, c, d, e] :=
  ⟨rfl, _, _, rfl, Nat.le_refl _, by decide, .inr ⟨_, _, rfl, _, _, heap_alloc_new w _, fun j hj => by
    have : j < 5 := by simpa using hj
    match j, this with
    | 0, _ => rfl
    | 1, _ => rfl
    | 2, _ => rfl
    | 3, _ => rfl
    | 4, _ => rfl⟩⟩
theorem CF.fin {g m mm : Nat} {w wA wr : World} {b : Nat} {n : Int} {cv : Value} {CE : List (List Int)} (hc : Cur w g m) (hEA : Ext w wA) (hsz : wA.heap.size = w.heap.size + 1) (hR : CBlk wA w.heap.size 0 (.slice none 0 0)) (hX : CF g mm wA wr b n cv CE)
    (hn : -1 ≤ n ∧ n ≤ 13) (hl : CE.length ≤ 100) (hb : ∀ c ∈ CE, c.length ≤ 12) (hmm : mm ≤ m + 2000) :
    CBlk ((wr.setCell ⟨w.heap.size, 0, none⟩ (.int .i64 n)).setCell ⟨w.heap.size, 1, none⟩ cv) w.heap.size n cv ∧ ∃ f : CNF, f.vars = n ∧ OwnL ((wr.setCell ⟨w.heap.size, 0, none⟩ (.int .i64 n)).setCell ⟨w.heap.size, 1, none⟩ cv) w.heap.size cv f.clauses ∧ DrawnC f ∧
      Dr g (m + 2000) w ((wr.setCell ⟨w.heap.size, 0, none⟩ (.int .i64 n)).setCell ⟨w.heap.size, 1, none⟩ cv) := by
  have hgl := hc.lt
  have hR' := hR.grown hX.dr.keep (fun e => by injection e with e; omega)
  have hneR : cv.ownBlock ≠ some w.heap.size := fun e => by have := (hX.own.lt _ e).1; omega
  obtain ⟨h1, h2, _⟩ := hR'.store (n := n) hX.own hneR
  have hDw := ((Dr.start hc).ext hEA).trans hX.dr
  exact ⟨h1, ⟨n, CE⟩, rfl, h2.mono (by omega), ⟨hn.1, hn.2, hl, hb⟩, ((hDw.setBlk hR' (Nat.le_refl _) 0 (.int .i64 n)).setBlk (hR'.set0 n) (Nat.le_refl _) 1 cv).mono hmm⟩
/-- how long the list of a block's Cnf is -/
def lenAt (b : Nat) (w : World) : Nat := match w.cell? ⟨b, 1, none⟩ with
  | some (.slice _ n _) => n
  | _ => 0
set_option maxRecDepth 100000 in
set_option maxHeartbeats 4000000 in
theorem cnf_any (g m : Nat) (w : World) (hc : Cur w g m) (hm : m ≤ 100000) :
    Calls Tryz.prog 84 #[.pointer (some ⟨g, 0, none⟩)] w fun e w' => ∃ (n : Int) (cv : Value), e = .returned (.agg #[.int .i64 n, cv]) ∧ ∃ f : CNF, f.vars = n ∧ OwnL w' w.heap.size cv f.clauses ∧ DrawnC f ∧ Dr g (m + 2000) w w' := by
  have hgl := hc.lt
  obtain ⟨wA, hwA⟩ : ∃ wA, w.alloc (.cells #[.int .i64 0, .slice none 0 0] 26) = wA := ⟨_, rfl⟩
  have hcA : Cur wA g m := by rw [← hwA]; exact hc.ext (by repeat (first | exact Ext.refl _ | assumption | apply Ext.dn | apply Ext.drew | apply Ext.alloc))
  have hR : CBlk wA w.heap.size 0 (.slice none 0 0) := by rw [← hwA]; exact CBlk.made _ _ _
  have hszA : wA.heap.size = w.heap.size + 1 := by rw [← hwA]; simp
  have hEA : Ext w wA := by rw [← hwA]; exact (by repeat (first | exact Ext.refl _ | assumption | apply Ext.dn | apply Ext.drew | apply Ext.alloc))
  have hgR : some g ≠ some w.heap.size := fun e => by injection e with e; omega
  go_enter Tryz.func84, Tryz.ntmps84
  go_wp2_with (first | (simp only [hwA]; (go_at_call 86; refine (one_any g m _ _ hcA (by omega)).mono ?_; rintro e w1 ⟨b1, rfl, hk1, hc1⟩; have hd1 := (Dr.start hcA).draw hk1 hc1)) | (go_at_call 86; refine (one_any g m _ _ hcA (by omega)).mono ?_; rintro e w1 ⟨b1, rfl, hk1, hc1⟩; have hd1 := (Dr.start hcA).draw hk1 hc1) | (go_at_call 87; refine (hard_any g (m + 2) _ hd1.cur (by omega)).mono ?_; rintro e w2 ⟨n, cv, rfl, f, hfn, hof, hhp, hd2⟩; have hR2 := (hR.grown hd1.keep hgR).grown hd2.keep hgR; obtain ⟨g0, g1⟩ := hR2.cells; have gf0 := hR2.frozen 0; have gf1 := hR2.frozen 1; obtain ⟨cb, cc, rfl, _, _⟩ := hof.form) | (go_at_call 91; refine (among_any g (m + 2) _ _ [2, 3, 3, 4, 5] (hd1.cur.ext (by repeat (first | exact Ext.refl _ | assumption | apply Ext.dn | apply Ext.drew | apply Ext.alloc))) (by omega) (ints_five _ _ _ _ _ _) (by simp)).mono ?_; rintro e w2 ⟨n, rfl, hn, hk2, hc2⟩; have hd2 := (hd1.ext (by repeat (first | exact Ext.refl _ | assumption | apply Ext.dn | apply Ext.drew | apply Ext.alloc))).draw hk2 hc2; have hnb : 2 ≤ n ∧ n ≤ 5 := (by simp at hn; omega); have hs12 := hd2.size; have hC5 : CF g (m + 2 + 2) wA ((w2.alloc (.cells #[] 33)).alloc (.cells #[.int .i64 n, .slice (some ⟨w2.heap.size, 0, none⟩) 0 0] 26)) (w2.heap.size + 1) n (.slice (some ⟨w2.heap.size, 0, none⟩) 0 0) [] := ⟨hd2.ext (by repeat (first | exact Ext.refl _ | assumption | apply Ext.dn | apply Ext.drew | apply Ext.alloc)), (by have h := CBlk.made (w2.alloc (.cells #[] 33)) n (.slice (some ⟨w2.heap.size, 0, none⟩) 0 0); simpa using h), (OwnL.empty w2 wA.heap.size hs12).ext (by repeat (first | exact Ext.refl _ | assumption | apply Ext.dn | apply Ext.drew | apply Ext.alloc)), (by omega), (by simp [Value.ownBlock])⟩) | (go_at_call 89; refine (pick_any g (m + 2 + 2) _ _ hC5.dr.cur (by omega)).mono ?_; rintro e w3 ⟨q, rfl, hq0, hq1, hk3, hc3⟩; have hC3 := hC5.draw hk3 hc3))
  · (have hneR : (Value.slice cb f.clauses.length cc).ownBlock ≠ some w.heap.size := (fun e => by have := (hof.lt _ e).1; have := hd1.size; omega); obtain ⟨hb, ho, hg4⟩ := hR2.store (n := n) hof hneR; have hDw := (((Dr.start hc).ext hEA).trans hd1).trans hd2; have hDf := (hDw.setBlk hR2 (Nat.le_refl _) 0 (.int .i64 n)).setBlk (hR2.set0 n) (Nat.le_refl _) 1 (.slice cb f.clauses.length cc); refine bodyPost_ret (results_cell_row rfl _ _ w.heap.size _ _ _ _ rfl hb Tryz.underlying26 rfl (by kernel_rfl)) rfl ?_; exact ⟨n, _, rfl, f, hfn, ho.mono (by have := hd1.size; omega), hhp.drawn, hDf.mono (by omega)⟩)
  have hq10 : 0 ≤ q ∧ q ≤ 9 := by omega
  go_loopw [4] (fun i wr => ∃ (p : Int) (cv2 : Value) (CE : List (List Int)), i = .int .i64 p ∧ 0 ≤ p ∧ CE.length + p ≤ 10 ∧ CF g (m + 6 + 20 * CE.length) wA wr (w2.heap.size + 1) n cv2 CE ∧ ∀ c ∈ CE, c.length ≤ 12) (fun i _ => (intOf i).toNat)
  case atStart => exact ⟨q, _, [], rfl, hq10.1, by simp; omega, hC3, by simp⟩
  case round =>
    obtain ⟨p, cv2, CE, rfl, hp0, hp2, hCx, hext⟩ := hrel
    have HEXT := Lib.hid hext
    clear hext
    have hxl : CE.length ≤ 10 := by omega
    obtain ⟨cb2, cc2, rfl, _, _⟩ := hCx.own.form
    obtain ⟨c0, c1⟩ := hCx.blk.cells
    by_cases hp : p > 0
    · go_wp2
      go_region_law (first
        | (refine step_appL rfl (.tmp 21) (.tmp 26) rfl wA.heap.size _ _ CE [c8] rfl rfl (hC8.own.ext (by repeat (first | exact Ext.refl _ | assumption | apply Ext.dn | apply Ext.drew | apply Ext.alloc))) (lists_one ho8.ints) (by simp; omega) (by have := hC8.dr.size; simp; omega) ?_; intro v' w9 ho9 hg9 hat9; obtain ⟨vb, vc, rfl, _, _⟩ := ho9.form; have hP9 := (hC8.ext (by repeat (first | exact Ext.refl _ | assumption | apply Ext.dn | apply Ext.drew | apply Ext.alloc))).push ho9 hg9 hat9; have z9 := (hC8.blk.ext (by repeat (first | exact Ext.refl _ | assumption | apply Ext.dn | apply Ext.drew | apply Ext.alloc))).grown hg9 hC8.ne; have z91 := z9.frozen 1; obtain ⟨d0, d1⟩ := z9.cells)
        | (go_simp; go_at_call 110; refine (cclause_any g (m + 6 + 20 * CE.length) _ n (hCx.dr.cur.ext (by repeat (first | exact Ext.refl _ | assumption | apply Ext.dn | apply Ext.drew | apply Ext.alloc))) (by omega) (by omega)).mono ?_; rintro e w8 ⟨r8, rfl, c8, ho8, hok8, hlen8, hk8, hc8⟩; obtain ⟨xb, xc, rfl, _, _, _⟩ := ho8.ints.open; have hC8 := (hCx.ext (by repeat (first | exact Ext.refl _ | assumption | apply Ext.dn | apply Ext.drew | apply Ext.alloc))).draw hk8 hc8; obtain ⟨d0, d1⟩ := hC8.blk.cells; have dA0 := (fun o => (hC8.ext ((Ext.refl w8).alloc o)).blk.cells.1); have dA1 := (fun o => (hC8.ext ((Ext.refl w8).alloc o)).blk.cells.2)))
      all_goals
        have e9 : (CE ++ [c8]).length = CE.length + 1 := by simp
        rw [e9] at hP9
        have hP10 := hP9.mono (show m + 6 + 20 * CE.length + 20 ≤ m + 6 + 20 * (CE ++ [c8]).length by simp; omega)
        go_wp2
        refine ⟨⟨p - 1, _, CE ++ [c8], rfl, by omega, by simp; omega, hP10, ?_⟩, by simp [intOf]; omega⟩
        intro c hc
        rcases List.mem_append.1 hc with hc | hc
        · exact HEXT.out c hc
        · simp at hc
          subst hc
          omega
    · have hC0 := hCx.mono (show m + 6 + 20 * CE.length ≤ m + 206 by omega)
      clear hCx
      go_wp2_with (first
        | (go_at_call 89; refine (pick_any g (m + 206) _ _ hC0.dr.cur (by omega)).mono ?_; rintro e w4 ⟨y, rfl, hy0, hy1, hk4, hc4⟩; have hC4 := hC0.draw hk4 hc4; obtain ⟨c0, c1⟩ := hC4.blk.cells; have cf0 := hC4.blk.frozen 0; have cf1 := hC4.blk.frozen 1; have hR4 := hR.grown hC4.dr.keep hgR; obtain ⟨g0, g1⟩ := hR4.cells; have gf0 := hR4.frozen 0; have gf1 := hR4.frozen 1))
      · go_wp2_with (go_at_call 91; refine (among_any g (m + 206 + 2) _ _ [-1, 13, 12, 0, 1] (hC4.dr.cur.ext (by repeat (first | exact Ext.refl _ | assumption | apply Ext.dn | apply Ext.drew | apply Ext.alloc))) (by omega) (ints_five _ _ _ _ _ _) (by simp)).mono ?_; rintro e w6 ⟨v, rfl, hv, hk6, hc6⟩; have hC6 := (hC4.ext (by repeat (first | exact Ext.refl _ | assumption | apply Ext.dn | apply Ext.drew | apply Ext.alloc))).draw hk6 hc6; obtain ⟨k0, k1⟩ := hC6.blk.cells; have kf0 := hC6.blk.frozen 0; have hX := hC6.setV v; obtain ⟨e0, e1⟩ := hX.blk.cells; have hRX := hR.grown hX.dr.keep hgR; obtain ⟨g0, g1⟩ := hRX.cells; have gf0 := hRX.frozen 0; have gf1 := hRX.frozen 1)
        have hvb : -1 ≤ v ∧ v ≤ 13 := by simp at hv; omega
        have HXE := HEXT
        (go_wp2; obtain ⟨hb1, f1, q1, q2, q3, q4⟩ := CF.fin hc hEA hszA hR hX (by omega) (by first | omega | (simp; omega)) HXE.out (by omega); refine bodyPost_ret (results_cell_row rfl _ _ w.heap.size _ _ _ _ rfl hb1 Tryz.underlying26 rfl (by kernel_rfl)) rfl ?_; exact ⟨_, _, rfl, f1, q1, q2, q3, q4⟩)
      · go_region_law (first
          | (refine step_appL rfl (.tmp 40) (.tmp 45) rfl wA.heap.size _ _ CE [c8] rfl rfl (hC8.own.ext (by repeat (first | exact Ext.refl _ | assumption | apply Ext.dn | apply Ext.drew | apply Ext.alloc))) (lists_one ho8.ints) (by simp; omega) (by have := hC8.dr.size; simp; omega) ?_; intro v' w9 ho9 hg9 hat9; obtain ⟨vb, vc, rfl, _, _⟩ := ho9.form; have hP9 := (hC8.ext (by repeat (first | exact Ext.refl _ | assumption | apply Ext.dn | apply Ext.drew | apply Ext.alloc))).push ho9 hg9 hat9; have z9 := (hC8.blk.ext (by repeat (first | exact Ext.refl _ | assumption | apply Ext.dn | apply Ext.drew | apply Ext.alloc))).grown hg9 hC8.ne; have z91 := z9.frozen 1; obtain ⟨d0, d1⟩ := z9.cells)
          | (go_simp; go_at_call 90; refine (anyClause_any g (m + 206 + 2) _ n (hC4.dr.cur.ext (by repeat (first | exact Ext.refl _ | assumption | apply Ext.dn | apply Ext.drew | apply Ext.alloc))) (by omega) (by omega) (by omega)).mono ?_; rintro e w8 ⟨r8, rfl, c8, ho8, hlen8, hk8, hc8⟩; obtain ⟨xb, xc, rfl, _, _, _⟩ := ho8.ints.open; have hC8 := (hC4.ext (by repeat (first | exact Ext.refl _ | assumption | apply Ext.dn | apply Ext.drew | apply Ext.alloc))).draw hk8 hc8; obtain ⟨d0, d1⟩ := hC8.blk.cells; have dA0 := (fun o => (hC8.ext ((Ext.refl w8).alloc o)).blk.cells.1); have dA1 := (fun o => (hC8.ext ((Ext.refl w8).alloc o)).blk.cells.2)))
        all_goals
          have e9 : (CE ++ [c8]).length = CE.length + 1 := by simp
          have HXE := Lib.hid (show ∀ c ∈ CE ++ [c8], c.length ≤ 12 from fun c hc => by rcases List.mem_append.1 hc with hc | hc; exact HEXT.out c hc; simp at hc; subst hc; omega)
          have hX := hP9
          rw [e9] at hX
          obtain ⟨e0, e1⟩ := hX.blk.cells; have hRX := hR.grown hX.dr.keep hgR; obtain ⟨g0, g1⟩ := hRX.cells; have gf0 := hRX.frozen 0; have gf1 := hRX.frozen 1
          (go_wp2; obtain ⟨hb1, f1, q1, q2, q3, q4⟩ := CF.fin hc hEA hszA hR hX (by omega) (by first | omega | (simp; omega)) HXE.out (by omega); refine bodyPost_ret (results_cell_row rfl _ _ w.heap.size _ _ _ _ rfl hb1 Tryz.underlying26 rfl (by kernel_rfl)) rfl ?_; exact ⟨_, _, rfl, f1, q1, q2, q3, q4⟩)
      · go_loopw [] (fun wr => ∃ (cv3 : Value) (C3 : List (List Int)), CF g (m + 208 + 2 * C3.length) wA wr (w2.heap.size + 1) n cv3 C3 ∧ C3.length ≤ 62 ∧ ∀ c ∈ C3, c.length ≤ 12) (fun wr => 100 - lenAt (w2.heap.size + 1) wr)
        case atStart => exact ⟨_, CE, hC4.mono (by omega), by omega, HEXT.out⟩
        case round =>
          obtain ⟨cv3, C3, hC7, hl3, hb3⟩ := hrel
          have HB3 := Lib.hid hb3
          clear hb3
          obtain ⟨cb3, cc3, rfl, _, _⟩ := hC7.own.form
          obtain ⟨j0, j1⟩ := hC7.blk.cells
          have hla : lenAt (w2.heap.size + 1) wr = C3.length := by unfold lenAt; rw [j1]
          go_wp2
          go_region_law (go_simp; go_at_call 89; refine (pick_any g (m + 208 + 2 * C3.length) _ _ (hC7.dr.cur.ext (by repeat (first | exact Ext.refl _ | assumption | apply Ext.dn | apply Ext.drew | apply Ext.alloc))) (by omega)).mono ?_; rintro e w8 ⟨z, rfl, hz0, hz1, hk8, hc8⟩; have hC8 := (hC7.ext (by repeat (first | exact Ext.refl _ | assumption | apply Ext.dn | apply Ext.drew | apply Ext.alloc))).draw hk8 hc8; obtain ⟨d0, d1⟩ := hC8.blk.cells; have df1 := hC8.blk.frozen 1; have hL1 : ∀ k : Nat, Lists ((w8.alloc (.cells #[.int .i64 1] 3)).alloc (.cells #[.slice (some ⟨w8.heap.size, 0, none⟩) 1 1] 33)) (.slice (some ⟨w8.heap.size + 1, 0, none⟩) 1 1) [[1]] := (fun _ => by have h := lists_one (ints_one w8 1); rw [World.size_alloc] at h; exact h))
          all_goals
            have hw60 : IntKind.i64.wrap (60 + z) = 60 + z := IntWalk.i64_in _ ⟨by omega, by omega⟩
            have hq1 := hL1 0
            have hq2 := hC8.own
            have hq3 : C3.length + [[(1 : Int)]].length ≤ 1099511627776 := (by simp; omega)
            have hq4 := hC8.dr.size
            have hq5 : ∀ o p, CF g (m + 208 + 2 * C3.length + 2) wA ((w8.alloc o).alloc p) (w2.heap.size + 1) n (.slice cb3 C3.length cc3) C3 := fun o p => hC8.ext (((Ext.refl w8).alloc o).alloc p)
            have hRX := hR.grown hC8.dr.keep hgR
            obtain ⟨g0, g1⟩ := hRX.cells
            have gf0 := hRX.frozen 0
            have gf1 := hRX.frozen 1
          all_goals
            go_wp2_with (at_builtin; refine wpList_appL rfl _ _ rfl wA.heap.size _ _ C3 [[1]] rfl rfl (hq2.ext (by repeat (first | exact Ext.refl _ | assumption | apply Ext.dn | apply Ext.drew | apply Ext.alloc))) hq1 hq3 (by simp; omega) ?_; intro v' w9 ho9 hg9 hat9; obtain ⟨vb, vc, rfl, _, _⟩ := ho9.form; have hP9 := (hq5 _ _).push ho9 hg9 hat9; have z9 := (hq5 _ _).blk.grown hg9 hC8.ne; have z91 := z9.frozen 1; obtain ⟨d0, d1⟩ := z9.cells)
          all_goals first
            | (have hX := hC8
               have HXE := HB3
               (go_wp2; obtain ⟨hb1, f1, q1, q2, q3, q4⟩ := CF.fin hc hEA hszA hR hX (by omega) (by first | omega | (simp; omega)) HXE.out (by omega); refine bodyPost_ret (results_cell_row rfl _ _ w.heap.size _ _ _ _ rfl hb1 Tryz.underlying26 rfl (by kernel_rfl)) rfl ?_; exact ⟨_, _, rfl, f1, q1, q2, q3, q4⟩))
            | (have e9 : (C3 ++ [[1]]).length = C3.length + 1 := by simp
               rw [e9] at hP9
               have hP10 := hP9.mono (show m + 208 + 2 * C3.length + 2 ≤ m + 208 + 2 * (C3 ++ [[1]]).length by simp; omega)
               have hla2 : lenAt (w2.heap.size + 1) (w9.setCell ⟨w2.heap.size + 1, 1, none⟩ (.slice vb (C3.length + 1) vc)) = C3.length + 1 := by unfold lenAt; rw [hP9.blk.cells.2]
               have q0 : (y == 0) = false := by assumption
               have q1 : (y == 1) = false := by assumption
               have q2 : (y == 2) = true := by assumption
               simp only [q0, q1, q2]
               refine ⟨⟨_, _, _, _, _, _, _, _, _, _, _, _, _, ⟨_, C3 ++ [[1]], hP10, by simp; omega, ?_⟩, rfl⟩, by rw [hla2, hla]; omega⟩
               intro c hc
               rcases List.mem_append.1 hc with hc | hc
               · exact HB3.out c hc
               · simp at hc
                 subst hc
                 simp)
      · have cA0 := fun o => (hC4.ext ((Ext.refl w4).alloc o)).blk.cells.1
        have cA1 := fun o => (hC4.ext ((Ext.refl w4).alloc o)).blk.cells.2
        go_region_law (first
          | (refine step_appL rfl (.tmp 66) (.tmp 72) rfl wA.heap.size _ _ CE [c8, []] rfl rfl (hC8.own.ext (by repeat (first | exact Ext.refl _ | assumption | apply Ext.dn | apply Ext.drew | apply Ext.alloc))) (by first | exact hL2 | exact lists_two ho8.ints (ints_nil _ _ _ (by decide))) (by simp; omega) (by have := hC8.dr.size; simp; omega) ?_; intro v' w9 ho9 hg9 hat9; obtain ⟨vb, vc, rfl, _, _⟩ := ho9.form; have hP9 := (hC8.ext (by repeat (first | exact Ext.refl _ | assumption | apply Ext.dn | apply Ext.drew | apply Ext.alloc))).push ho9 hg9 hat9; have z9 := (hC8.blk.ext (by repeat (first | exact Ext.refl _ | assumption | apply Ext.dn | apply Ext.drew | apply Ext.alloc))).grown hg9 hC8.ne; have z91 := z9.frozen 1; obtain ⟨d0, d1⟩ := z9.cells)
          | (go_simp; go_at_call 110; refine (cclause_any g (m + 206 + 2) _ n (hC4.dr.cur.ext (by repeat (first | exact Ext.refl _ | assumption | apply Ext.dn | apply Ext.drew | apply Ext.alloc))) (by omega) (by omega)).mono ?_; rintro e w8 ⟨r8, rfl, c8, ho8, hok8, hlen8, hk8, hc8⟩; obtain ⟨xb, xc, rfl, _, _, _⟩ := ho8.ints.open; have hC8 := (hC4.ext (by repeat (first | exact Ext.refl _ | assumption | apply Ext.dn | apply Ext.drew | apply Ext.alloc))).draw hk8 hc8; obtain ⟨d0, d1⟩ := hC8.blk.cells; have dA0 := (fun o => (hC8.ext ((Ext.refl w8).alloc o)).blk.cells.1); have dA1 := (fun o => (hC8.ext ((Ext.refl w8).alloc o)).blk.cells.2); have hL2 : Lists ((w8.alloc (.cells #[] 3)).alloc (.cells #[.slice xb c8.length xc, .slice (some ⟨w8.heap.size, 0, none⟩) 0 0] 33)) (.slice (some ⟨w8.heap.size + 1, 0, none⟩) 2 2) [c8, []] := (by have h := lists_two (w := w8.alloc (.cells #[] 3)) (ho8.ints.ext (by repeat (first | exact Ext.refl _ | assumption | apply Ext.dn | apply Ext.drew | apply Ext.alloc))) (ints_nil _ (some ⟨w8.heap.size, 0, none⟩) 0 (by decide)); rw [World.size_alloc] at h; exact h); have dB0 := (fun o p => (hC8.ext (((Ext.refl w8).alloc o).alloc p)).blk.cells.1); have dB1 := (fun o p => (hC8.ext (((Ext.refl w8).alloc o).alloc p)).blk.cells.2)))
        all_goals
          have e9 : (CE ++ [c8, []]).length = CE.length + 2 := by simp
          have HXE := Lib.hid (show ∀ c ∈ CE ++ [c8, []], c.length ≤ 12 from fun c hc => by rcases List.mem_append.1 hc with hc | hc; exact HEXT.out c hc; simp at hc; rcases hc with rfl | rfl; omega; simp)
          have hX := hP9
          rw [e9] at hX
          obtain ⟨e0, e1⟩ := hX.blk.cells; have hRX := hR.grown hX.dr.keep hgR; obtain ⟨g0, g1⟩ := hRX.cells; have gf0 := hRX.frozen 0; have gf1 := hRX.frozen 1
          (go_wp2; obtain ⟨hb1, f1, q1, q2, q3, q4⟩ := CF.fin hc hEA hszA hR hX (by omega) (by first | omega | (simp; omega)) HXE.out (by omega); refine bodyPost_ret (results_cell_row rfl _ _ w.heap.size _ _ _ _ rfl hb1 Tryz.underlying26 rfl (by kernel_rfl)) rfl ?_; exact ⟨_, _, rfl, f1, q1, q2, q3, q4⟩)
      · have hX := hC4
        have HXE := HEXT
        (go_wp2; obtain ⟨hb1, f1, q1, q2, q3, q4⟩ := CF.fin hc hEA hszA hR hX (by omega) (by first | omega | (simp; omega)) HXE.out (by omega); refine bodyPost_ret (results_cell_row rfl _ _ w.heap.size _ _ _ _ rfl hb1 Tryz.underlying26 rfl (by kernel_rfl)) rfl ?_; exact ⟨_, _, rfl, f1, q1, q2, q3, q4⟩)
end Go.Proofs.YtfnjhodologfeaaGreat
