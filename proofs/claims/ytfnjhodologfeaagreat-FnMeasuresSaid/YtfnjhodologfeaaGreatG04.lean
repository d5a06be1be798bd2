/- Parts of the proof: A6, A7. -/
import Derived.Test.YtfnjhodologfeaaGreatG03
set_option linter.unusedSimpArgs false
set_option linter.unusedVariables false
/- l7Correct, l7Wrong, l7Asked, l7Good, l8Takes -/
namespace Go.Proofs.YtfnjhodologfeaaGreat
open Go.RowKit

/-- is the step with this clause, left, right, pivot correct at place k? -/
def correctAt (f : CNF) (ss : List RS) (k : Nat) (c : List Int) (l r p : Int) : Bool :=
  if clauseB f.vars c = false then false
  else if (l == -1) = true then (p == 0) && inB r 0 ((f.clauses.length : Int) - 1) && eqB (f.clauses.getD r.toNat []) c
  else if earlierB f ss k l = false then false
  else if (r == -1) = true then (p == 0) && subB (clAt ss l) c
  else if earlierB f ss k r = false ∨ inB p 1 f.vars = false then false
  else match resolveL (clAt ss l) (clAt ss r) p with
    | none => false
    | some d => eqB d c
def correctB (f : CNF) (ss : List RS) (k : Nat) : Bool :=
  match ss[k]? with
  | none => false
  | some s => correctAt f ss k s.clause s.left s.right s.pivot

theorem clauseB_bd {vars : Int} {c : List Int} (h : clauseB vars c = true) : BdI c := by
  intro x hx
  obtain ⟨j, hj, rfl⟩ := List.mem_iff_getElem.1 hx
  simp only [clauseB, Bool.and_eq_true] at h
  have hv : 0 ≤ vars ∧ vars ≤ 12 := by simpa [inB] using h.1
  exact litB_abs (okTo_lit h.2 hj (List.getElem?_eq_getElem hj)) (by omega)

theorem clauseB_lt {vars : Int} {c : List Int} (h : clauseB vars c = true) : ∀ j (hj : j < c.length), (j : Int) + 1 ≤ absI c[j] ∧ absI c[j] ≤ vars := by
  simp only [clauseB, Bool.and_eq_true] at h
  obtain ⟨hv, h⟩ := h
  intro j
  induction j with
  | zero =>
    intro hj
    have := okTo_lit h hj (List.getElem?_eq_getElem hj)
    simp only [litB, inB, Bool.and_eq_true, decide_eq_true_eq, Bool.not_eq_true', beq_eq_false_iff_ne] at this
    unfold absI; split <;> omega
  | succ j ih =>
    intro hj
    have h1 := ih (by omega)
    have h2 := okTo_lit h hj (List.getElem?_eq_getElem hj)
    have h3 := okTo_mono h (show j + 2 ≤ c.length by omega)
    simp only [okTo, Bool.and_eq_true, stepOk, List.getElem?_eq_getElem hj, List.getElem?_eq_getElem (show j < c.length by omega), decide_eq_true_eq] at h3
    simp only [litB, inB, Bool.and_eq_true, decide_eq_true_eq, Bool.not_eq_true', beq_eq_false_iff_ne] at h2
    refine ⟨by have := h3.2.2; omega, ?_⟩
    unfold absI; split <;> omega
theorem clauseB_len {vars : Int} {c : List Int} (h : clauseB vars c = true) : c.length ≤ 12 := by
  have hv : 0 ≤ vars ∧ vars ≤ 12 := by
    have := h
    simp only [clauseB, Bool.and_eq_true] at this
    simpa [inB] using this.1
  rcases Nat.eq_zero_or_pos c.length with h0 | h0
  · omega
  · have := clauseB_lt h (c.length - 1) (by omega)
    omega

theorem own_cells {w w1 : World} {a0 a1 b0 b1 b2 b3 : Value} {t t2 : TypeId} (h : Ext ((w.alloc (.cells #[a0, a1] t)).alloc (.cells #[b0, b1, b2, b3] t2)) w1) :
    w1.cell? ⟨w.heap.size, 0, none⟩ = some a0 ∧ w1.cell? ⟨w.heap.size, 1, none⟩ = some a1 ∧ w1.cell? ⟨w.heap.size + 1, 0, none⟩ = some b0 ∧ w1.cell? ⟨w.heap.size + 1, 1, none⟩ = some b1 ∧
    w1.cell? ⟨w.heap.size + 1, 2, none⟩ = some b2 ∧ w1.cell? ⟨w.heap.size + 1, 3, none⟩ = some b3 ∧ Ext w w1 :=
  ⟨h.cell (by simp), h.cell (by simp), h.cell (by simp), h.cell (by simp), h.cell (by simp), h.cell (by simp), Ext.trans (((Ext.refl _).alloc _).alloc _) h⟩

theorem earlierB_at {f : CNF} {ss : List RS} {k : Nat} {i : Int} (h : earlierB f ss k i = true) : ∃ j : Nat, i = (j : Int) ∧ j < k ∧ clauseB f.vars (clAt ss i) = true := by
  simp only [earlierB, Bool.and_eq_true] at h
  have h2 : 0 ≤ i ∧ i ≤ (k : Int) - 1 := by simpa [inB] using h.1
  exact ⟨i.toNat, by omega, by omega, h.2⟩

set_option maxRecDepth 100000 in
set_option maxHeartbeats 2000000 in
theorem l7Correct_any (v vs : Value) (f : CNF) (ss : List RS) (k : Nat) (w : World) (hx : CnfV w v f) (hs : Steps w vs ss) (hk : k < ss.length) :
    Calls Tryz.prog 131 #[v, vs, .int .i64 k] w (BoolE w (correctB f ss k)) := by
  have hx0 := hx
  obtain ⟨cv, rfl, hl⟩ := hx
  obtain ⟨base, cap, rfl, hc1, hc2, hcell⟩ := hs.open
  obtain ⟨b, off, rfl, hb, hcs⟩ := hcell k hk
  obtain ⟨⟨c, l, r, p⟩, u, hsk, hci⟩ := hcs k hk
  dsimp only at hci
  obtain ⟨hu0, hu1, hu2, hu3, _⟩ := hci w (.refl _)
  have hcI : ∀ w', Ext w w' → Ints w' u c := fun w' h => (hci _ h).2.2.2.2
  have HF := Lib.hid (show correctB f ss k = correctAt f ss k c l r p by simp [correctB, hsk])
  obtain ⟨ub, uc, rfl, _, _, _⟩ := (hcI w (.refl _)).open
  have hcs0 := hcs
  clear hci hsk hcs
  have hkl : (k : Int) < (ss.length : Int) := by omega
  obtain ⟨lb, lc, rfl, hlc1, hlc2, hlcell⟩ := hl.open
  cases hcl : (inB f.vars 0 12 && okTo f.vars c c.length)
  · go_enter Tryz.func131, Tryz.ntmps131
    go_wp2_with (go_at_call 135; refine (l2Clause_any _ _ _ _ (hcI _ (by repeat (first | exact Ext.refl _ | assumption | apply Ext.dn | apply Ext.drew | apply Ext.alloc)))).mono ?_; rw [hcl]; rintro e w1 ⟨rfl, hd1⟩; obtain ⟨f0, f1, g0, g1, g2, g3, hE1⟩ := own_cells hd1.ext)
    go_ret
    exact boolE (by rw [HF.out]; simp [correctAt, clauseB, hcl]) (by repeat (first | exact Ext.refl _ | assumption | apply Ext.dn | apply Ext.drew | apply Ext.alloc))
  · have HC := Lib.hid (show clauseB f.vars c = true from hcl)
    cases hL : (l == -1)
    · cases hEl : earlierB f ss k l
      · go_enter Tryz.func131, Tryz.ntmps131
        go_wp2_with (first | (go_at_call 135; refine (l2Clause_any _ _ _ _ (hcI _ (by repeat (first | exact Ext.refl _ | assumption | apply Ext.dn | apply Ext.drew | apply Ext.alloc)))).mono ?_; rw [hcl]; rintro e w1 ⟨rfl, hd1⟩; obtain ⟨f0, f1, g0, g1, g2, g3, hE1⟩ := own_cells hd1.ext) | (go_at_call 163; refine (l7Clause_any _ _ f ss k _ _ (hx0.ext (by repeat (first | exact Ext.refl _ | assumption | apply Ext.dn | apply Ext.drew | apply Ext.alloc))) (hs.ext (by repeat (first | exact Ext.refl _ | assumption | apply Ext.dn | apply Ext.drew | apply Ext.alloc))) (by omega)).mono ?_; rw [hEl]; rintro e w2 ⟨rfl, he2⟩; obtain ⟨f0, f1, g0, g1, g2, g3, hE2⟩ := own_cells (hd1.ext.trans he2)))
        go_ret
        exact boolE (by rw [HF.out]; simp [correctAt, HC.out, hL, hEl]) (by repeat (first | exact Ext.refl _ | assumption | apply Ext.dn | apply Ext.drew | apply Ext.alloc))
      · obtain ⟨j1, rfl, hj1, hc1⟩ := earlierB_at hEl
        have hj1l : (j1 : Int) < (ss.length : Int) := by omega
        obtain ⟨⟨c1, l1, r1, p1⟩, u1, hs1, hi1⟩ := hcs0 j1 (by omega)
        dsimp only at hi1
        have hu1 := (hi1 w (.refl _)).1
        have h1I : ∀ w', Ext w w' → Ints w' u1 c1 := fun w' h => (hi1 _ h).2.2.2.2
        have HA1 := Lib.hid (show clAt ss (j1 : Int) = c1 from clAt_of (i := (j1 : Int)) hs1)
        have HB1 := Lib.hid (show clauseB f.vars c1 = true by rw [← HA1.out]; exact hc1)
        clear hi1 hs1 hc1
        cases hR : (r == -1)
        · cases hEr : earlierB f ss k r
          · go_enter Tryz.func131, Tryz.ntmps131
            go_wp2_with (first | (go_at_call 135; refine (l2Clause_any _ _ _ _ (hcI _ (by repeat (first | exact Ext.refl _ | assumption | apply Ext.dn | apply Ext.drew | apply Ext.alloc)))).mono ?_; rw [hcl]; rintro e w1 ⟨rfl, hd1⟩; obtain ⟨f0, f1, g0, g1, g2, g3, hE1⟩ := own_cells hd1.ext) | (go_at_call 163; refine (l7Clause_any _ _ f ss k _ _ (hx0.ext (by repeat (first | exact Ext.refl _ | assumption | apply Ext.dn | apply Ext.drew | apply Ext.alloc))) (hs.ext (by repeat (first | exact Ext.refl _ | assumption | apply Ext.dn | apply Ext.drew | apply Ext.alloc))) (by omega)).mono ?_; rw [hEl]; rintro e w2 ⟨rfl, he2⟩; obtain ⟨f0, f1, g0, g1, g2, g3, hE2⟩ := own_cells (hd1.ext.trans he2)) | (go_at_call 163; refine (l7Clause_any _ _ f ss k _ _ (hx0.ext (by repeat (first | exact Ext.refl _ | assumption | apply Ext.dn | apply Ext.drew | apply Ext.alloc))) (hs.ext (by repeat (first | exact Ext.refl _ | assumption | apply Ext.dn | apply Ext.drew | apply Ext.alloc))) (by omega)).mono ?_; rw [hEr]; rintro e w3 ⟨rfl, he3⟩; obtain ⟨f0, f1, g0, g1, g2, g3, hE3⟩ := own_cells ((hd1.ext.trans he2).trans he3)))
            go_ret
            exact boolE (by rw [HF.out]; simp [correctAt, HC.out, hL, hEl, hR, hEr]) (by repeat (first | exact Ext.refl _ | assumption | apply Ext.dn | apply Ext.drew | apply Ext.alloc))
          · obtain ⟨j2, rfl, hj2, hc2⟩ := earlierB_at hEr
            have hj2l : (j2 : Int) < (ss.length : Int) := by omega
            obtain ⟨⟨c2, l2, r2, p2⟩, u2, hs2, hi2⟩ := hcs0 j2 (by omega)
            dsimp only at hi2
            have hu2 := (hi2 w (.refl _)).1
            have h2I : ∀ w', Ext w w' → Ints w' u2 c2 := fun w' h => (hi2 _ h).2.2.2.2
            have HA2 := Lib.hid (show clAt ss (j2 : Int) = c2 from clAt_of (i := (j2 : Int)) hs2)
            have HB2 := Lib.hid (show clauseB f.vars c2 = true by rw [← HA2.out]; exact hc2)
            clear hi2 hs2 hc2
            cases hPv : inB p 1 f.vars
            · go_enter Tryz.func131, Tryz.ntmps131
              go_wp2_with (first | (go_at_call 135; refine (l2Clause_any _ _ _ _ (hcI _ (by repeat (first | exact Ext.refl _ | assumption | apply Ext.dn | apply Ext.drew | apply Ext.alloc)))).mono ?_; rw [hcl]; rintro e w1 ⟨rfl, hd1⟩; obtain ⟨f0, f1, g0, g1, g2, g3, hE1⟩ := own_cells hd1.ext) | (go_at_call 163; refine (l7Clause_any _ _ f ss k _ _ (hx0.ext (by repeat (first | exact Ext.refl _ | assumption | apply Ext.dn | apply Ext.drew | apply Ext.alloc))) (hs.ext (by repeat (first | exact Ext.refl _ | assumption | apply Ext.dn | apply Ext.drew | apply Ext.alloc))) (by omega)).mono ?_; rw [hEl]; rintro e w2 ⟨rfl, he2⟩; obtain ⟨f0, f1, g0, g1, g2, g3, hE2⟩ := own_cells (hd1.ext.trans he2)) | (go_at_call 163; refine (l7Clause_any _ _ f ss k _ _ (hx0.ext (by repeat (first | exact Ext.refl _ | assumption | apply Ext.dn | apply Ext.drew | apply Ext.alloc))) (hs.ext (by repeat (first | exact Ext.refl _ | assumption | apply Ext.dn | apply Ext.drew | apply Ext.alloc))) (by omega)).mono ?_; rw [hEr]; rintro e w3 ⟨rfl, he3⟩; obtain ⟨f0, f1, g0, g1, g2, g3, hE3⟩ := own_cells ((hd1.ext.trans he2).trans he3)) | (go_at_call 161; refine (l1In_any _ _ _ _).mono ?_; rw [hPv]; rintro e w4 ⟨rfl, rfl⟩))
              go_ret
              exact boolE (by rw [HF.out]; simp [correctAt, HC.out, hL, hEl, hR, hEr, hPv]) (by repeat (first | exact Ext.refl _ | assumption | apply Ext.dn | apply Ext.drew | apply Ext.alloc))
            · have hp2 : 1 ≤ p ∧ p ≤ f.vars := by simpa [inB] using hPv
              obtain ⟨hp0, hp1⟩ := hp2
              have hvv : f.vars ≤ 12 := by
                have := HC.out
                simp only [clauseB, inB, Bool.and_eq_true, decide_eq_true_eq] at this
                exact this.1.2
              have hlen1 := clauseB_len HB1.out
              have hlen2 := clauseB_len HB2.out
              go_enter Tryz.func131, Tryz.ntmps131
              go_wp2_with (first | (go_at_call 135; refine (l2Clause_any _ _ _ _ (hcI _ (by repeat (first | exact Ext.refl _ | assumption | apply Ext.dn | apply Ext.drew | apply Ext.alloc)))).mono ?_; rw [hcl]; rintro e w1 ⟨rfl, hd1⟩; obtain ⟨f0, f1, g0, g1, g2, g3, hE1⟩ := own_cells hd1.ext) | (go_at_call 163; refine (l7Clause_any _ _ f ss k _ _ (hx0.ext (by repeat (first | exact Ext.refl _ | assumption | apply Ext.dn | apply Ext.drew | apply Ext.alloc))) (hs.ext (by repeat (first | exact Ext.refl _ | assumption | apply Ext.dn | apply Ext.drew | apply Ext.alloc))) (by omega)).mono ?_; rw [hEl]; rintro e w2 ⟨rfl, he2⟩; obtain ⟨f0, f1, g0, g1, g2, g3, hE2⟩ := own_cells (hd1.ext.trans he2)) | (go_at_call 163; refine (l7Clause_any _ _ f ss k _ _ (hx0.ext (by repeat (first | exact Ext.refl _ | assumption | apply Ext.dn | apply Ext.drew | apply Ext.alloc))) (hs.ext (by repeat (first | exact Ext.refl _ | assumption | apply Ext.dn | apply Ext.drew | apply Ext.alloc))) (by omega)).mono ?_; rw [hEr]; rintro e w3 ⟨rfl, he3⟩; obtain ⟨f0, f1, g0, g1, g2, g3, hE3⟩ := own_cells ((hd1.ext.trans he2).trans he3)) | (go_at_call 161; refine (l1In_any _ _ _ _).mono ?_; rw [hPv]; rintro e w4 ⟨rfl, rfl⟩))
              have fd1 := hE3.cell hu1
              have fd2 := hE3.cell hu2
              cases hres : resolveL c1 c2 p with
              | none =>
                go_region_held3 (fun w' => w'.cell? ⟨w.heap.size + 1, 1, none⟩ = some (.int .i64 j1) ∧ w'.cell? ⟨w.heap.size + 1, 2, none⟩ = some (.int .i64 j2) ∧ w'.cell? ⟨w.heap.size + 1, 3, none⟩ = some (.int .i64 p) ∧ w'.cell? ⟨b, off + j1 * 4, none⟩ = some u1 ∧ w'.cell? ⟨b, off + j2 * 4, none⟩ = some u2) (first | exact ⟨g1, g2, g3, fd1, fd2⟩ | exact ⟨he4.cell g1, he4.cell g2, he4.cell g3, he4.cell fd1, he4.cell fd2⟩) (first | (go_at_call 138; refine (l2Resolve_any _ _ c1 c2 p _ (h1I _ (by repeat (first | exact Ext.refl _ | assumption | apply Ext.dn | apply Ext.drew | apply Ext.alloc))) (h2I _ (by repeat (first | exact Ext.refl _ | assumption | apply Ext.dn | apply Ext.drew | apply Ext.alloc))) (by omega) (by omega) (clauseB_bd HB1.out) (clauseB_bd HB2.out) (by omega) (by omega)).mono ?_; rw [hres]; rintro e w4 ⟨r4, rfl, ho4, he4⟩; have hE4 := hE3.trans (Ext.trans (Ext.drewN w3 1) he4)))
                go_wp2
                go_ret
                exact boolE (by rw [HF.out]; simp [correctAt, HC.out, hL, hEl, hR, hEr, hPv, HA1.out, HA2.out, hres]) (by repeat (first | exact Ext.refl _ | assumption | apply Ext.dn | apply Ext.drew | apply Ext.alloc))
              | some d =>
                go_region_held3 (fun w' => w'.cell? ⟨w.heap.size + 1, 1, none⟩ = some (.int .i64 j1) ∧ w'.cell? ⟨w.heap.size + 1, 2, none⟩ = some (.int .i64 j2) ∧ w'.cell? ⟨w.heap.size + 1, 3, none⟩ = some (.int .i64 p) ∧ w'.cell? ⟨b, off + j1 * 4, none⟩ = some u1 ∧ w'.cell? ⟨b, off + j2 * 4, none⟩ = some u2) (first | exact ⟨g1, g2, g3, fd1, fd2⟩ | exact ⟨he4.cell g1, he4.cell g2, he4.cell g3, he4.cell fd1, he4.cell fd2⟩) (first | (go_at_call 138; refine (l2Resolve_any _ _ c1 c2 p _ (h1I _ (by repeat (first | exact Ext.refl _ | assumption | apply Ext.dn | apply Ext.drew | apply Ext.alloc))) (h2I _ (by repeat (first | exact Ext.refl _ | assumption | apply Ext.dn | apply Ext.drew | apply Ext.alloc))) (by omega) (by omega) (clauseB_bd HB1.out) (clauseB_bd HB2.out) (by omega) (by omega)).mono ?_; rw [hres]; rintro e w4 ⟨r4, rfl, ho4, he4⟩; have hE4 := hE3.trans (Ext.trans (Ext.drewN w3 1) he4)))
                have gg0 := he4.cell g0
                go_wp2_with (go_at_call 162; refine (l1Same_any _ _ d c _ ho4.ints (hcI _ (by repeat (first | exact Ext.refl _ | assumption | apply Ext.dn | apply Ext.drew | apply Ext.alloc)))).mono ?_; rintro e w5 ⟨rfl, hd5⟩; have hE5 := hE4.trans hd5.ext)
                go_ret
                exact boolE (by rw [HF.out]; simp [correctAt, HC.out, hL, hEl, hR, hEr, hPv, HA1.out, HA2.out, hres]) (by repeat (first | exact Ext.refl _ | assumption | apply Ext.dn | apply Ext.drew | apply Ext.alloc))
        · cases hP : (p == 0)
          · go_enter Tryz.func131, Tryz.ntmps131
            go_wp2_with (first | (go_at_call 135; refine (l2Clause_any _ _ _ _ (hcI _ (by repeat (first | exact Ext.refl _ | assumption | apply Ext.dn | apply Ext.drew | apply Ext.alloc)))).mono ?_; rw [hcl]; rintro e w1 ⟨rfl, hd1⟩; obtain ⟨f0, f1, g0, g1, g2, g3, hE1⟩ := own_cells hd1.ext) | (go_at_call 163; refine (l7Clause_any _ _ f ss k _ _ (hx0.ext (by repeat (first | exact Ext.refl _ | assumption | apply Ext.dn | apply Ext.drew | apply Ext.alloc))) (hs.ext (by repeat (first | exact Ext.refl _ | assumption | apply Ext.dn | apply Ext.drew | apply Ext.alloc))) (by omega)).mono ?_; rw [hEl]; rintro e w2 ⟨rfl, he2⟩; obtain ⟨f0, f1, g0, g1, g2, g3, hE2⟩ := own_cells (hd1.ext.trans he2)))
            go_quiet (fail)
            go_wp2
            go_ret
            exact boolE (by rw [HF.out]; simp [correctAt, HC.out, hL, hEl, hR, hP]) (by repeat (first | exact Ext.refl _ | assumption | apply Ext.dn | apply Ext.drew | apply Ext.alloc))
          · go_enter Tryz.func131, Tryz.ntmps131
            go_wp2_with (first | (go_at_call 135; refine (l2Clause_any _ _ _ _ (hcI _ (by repeat (first | exact Ext.refl _ | assumption | apply Ext.dn | apply Ext.drew | apply Ext.alloc)))).mono ?_; rw [hcl]; rintro e w1 ⟨rfl, hd1⟩; obtain ⟨f0, f1, g0, g1, g2, g3, hE1⟩ := own_cells hd1.ext) | (go_at_call 163; refine (l7Clause_any _ _ f ss k _ _ (hx0.ext (by repeat (first | exact Ext.refl _ | assumption | apply Ext.dn | apply Ext.drew | apply Ext.alloc))) (hs.ext (by repeat (first | exact Ext.refl _ | assumption | apply Ext.dn | apply Ext.drew | apply Ext.alloc))) (by omega)).mono ?_; rw [hEl]; rintro e w2 ⟨rfl, he2⟩; obtain ⟨f0, f1, g0, g1, g2, g3, hE2⟩ := own_cells (hd1.ext.trans he2)))
            have fd := hE2.cell hu1
            go_quiet (first | (go_at_call 142; exact Calls.quiet_of_same ((l2Sub_any _ _ c1 c _ (h1I _ (by repeat (first | exact Ext.refl _ | assumption | apply Ext.dn | apply Ext.drew | apply Ext.alloc))) (hcI _ (by repeat (first | exact Ext.refl _ | assumption | apply Ext.dn | apply Ext.drew | apply Ext.alloc)))).mono (fun _ _ h => ⟨h.1, h.2.symm⟩))))
            go_wp2
            go_ret
            exact boolE (by rw [HF.out]; simp [correctAt, HC.out, hL, hEl, hR, hP, HA1.out]) (by repeat (first | exact Ext.refl _ | assumption | apply Ext.dn | apply Ext.drew | apply Ext.alloc))
    · cases hP : (p == 0)
      · go_enter Tryz.func131, Tryz.ntmps131
        go_wp2_with (go_at_call 135; refine (l2Clause_any _ _ _ _ (hcI _ (by repeat (first | exact Ext.refl _ | assumption | apply Ext.dn | apply Ext.drew | apply Ext.alloc)))).mono ?_; rw [hcl]; rintro e w1 ⟨rfl, hd1⟩; obtain ⟨f0, f1, g0, g1, g2, g3, hE1⟩ := own_cells hd1.ext)
        go_quiet (fail)
        go_wp2
        go_ret
        exact boolE (by rw [HF.out]; simp [correctAt, HC.out, hL, hP]) (by repeat (first | exact Ext.refl _ | assumption | apply Ext.dn | apply Ext.drew | apply Ext.alloc))
      · cases hR : inB r 0 ((f.clauses.length : Int) - 1)
        · go_enter Tryz.func131, Tryz.ntmps131
          go_wp2_with (go_at_call 135; refine (l2Clause_any _ _ _ _ (hcI _ (by repeat (first | exact Ext.refl _ | assumption | apply Ext.dn | apply Ext.drew | apply Ext.alloc)))).mono ?_; rw [hcl]; rintro e w1 ⟨rfl, hd1⟩; obtain ⟨f0, f1, g0, g1, g2, g3, hE1⟩ := own_cells hd1.ext)
          go_quiet ((go_at_call 161; exact Calls.quiet_of_same ((l1In_any _ _ _ _).mono (fun _ _ h => ⟨h.1.trans (ret_bool hR), h.2.symm⟩))))
          go_wp2
          go_ret
          exact boolE (by rw [HF.out]; simp [correctAt, HC.out, hL, hP, hR]) (by repeat (first | exact Ext.refl _ | assumption | apply Ext.dn | apply Ext.drew | apply Ext.alloc))
        · have hR2 : 0 ≤ r ∧ r ≤ (f.clauses.length : Int) - 1 := by simpa [inB] using hR
          obtain ⟨hR0, hR1⟩ := hR2
          obtain ⟨j, rfl⟩ : ∃ j : Nat, r = (j : Int) := ⟨r.toNat, by omega⟩
          have hjl : j < f.clauses.length := by omega
          have hjl' : (j : Int) < (f.clauses.length : Int) := by omega
          obtain ⟨lbb, lboff, rfl, hlb, hlcs⟩ := hlcell j hjl
          obtain ⟨d, du, hdj, hdi⟩ := hlcs j hjl
          have hdu := (hdi w (.refl _)).1
          have hdI : ∀ w', Ext w w' → Ints w' du d := fun w' h => (hdi _ h).2
          have HD := Lib.hid hdj
          clear hlcell hlcs hdj hdi hcell
          go_enter Tryz.func131, Tryz.ntmps131
          go_wp2_with (go_at_call 135; refine (l2Clause_any _ _ _ _ (hcI _ (by repeat (first | exact Ext.refl _ | assumption | apply Ext.dn | apply Ext.drew | apply Ext.alloc)))).mono ?_; rw [hcl]; rintro e w1 ⟨rfl, hd1⟩; obtain ⟨f0, f1, g0, g1, g2, g3, hE1⟩ := own_cells hd1.ext)
          have fd := hE1.cell hdu
          go_quiet (first | (go_at_call 161; exact Calls.quiet_of_same ((l1In_any _ _ _ _).mono (fun _ _ h => ⟨h.1.trans (ret_bool hR), h.2.symm⟩))) | (go_at_call 162; exact Calls.quiet_of ((l1Same_any _ _ d c _ (hdI _ (by repeat (first | exact Ext.refl _ | assumption | apply Ext.dn | apply Ext.drew | apply Ext.alloc))) (hcI _ (by repeat (first | exact Ext.refl _ | assumption | apply Ext.dn | apply Ext.drew | apply Ext.alloc)))))))
          go_wp2
          go_ret
          exact boolE (by rw [HF.out]; simp [correctAt, HC.out, hL, hP, hR, HD.out]) (by repeat (first | exact Ext.refl _ | assumption | apply Ext.dn | apply Ext.drew | apply Ext.alloc))
end Go.Proofs.YtfnjhodologfeaaGreat
/- l7Wrong, l7Asked, l7Good, l8Takes -/
namespace Go.Proofs.YtfnjhodologfeaaGreat
open Go.RowKit

/-- the first n steps are correct -/
def corrTo (f : CNF) (ss : List RS) : Nat → Bool
  | 0 => true
  | n + 1 => corrTo f ss n && correctB f ss n
/-- least index of a wrong step among the first n, or -1 -/
def wrongTo (f : CNF) (ss : List RS) : Nat → Int
  | 0 => -1
  | n + 1 => if corrTo f ss n = true then (if correctB f ss n = true then -1 else n) else wrongTo f ss n
theorem wrongTo_of {f : CNF} {ss : List RS} {n : Nat} (h : corrTo f ss n = true) : wrongTo f ss n = -1 := by
  cases n with
  | zero => rfl
  | succ n =>
    simp only [corrTo, Bool.and_eq_true] at h
    simp [wrongTo, h]
theorem wrongTo_at {f : CNF} {ss : List RS} {k : Nat} (h : corrTo f ss k = true) (hw : correctB f ss k = false) : ∀ n, k < n → wrongTo f ss n = k ∧ corrTo f ss n = false := by
  intro n
  induction n with
  | zero => intro h; omega
  | succ n ih =>
    intro hn
    by_cases hkn : k < n
    · obtain ⟨h1, h2⟩ := ih hkn
      simp [wrongTo, corrTo, h1, h2]
    · obtain rfl : k = n := by omega
      simp [wrongTo, corrTo, h, hw]
def IntE (w : World) (n : Int) (e : Ending) (w' : World) : Prop := e = .returned (.int .i64 n) ∧ Ext w w'
theorem intE {w w' : World} {a b : Int} (h : a = b) (hx : Ext w w') : IntE w b (.returned (.int .i64 a)) w' := ⟨ret_int h, hx⟩

theorem own2_cells {w w1 : World} {a0 a1 : Value} {t : TypeId} (h : Ext (w.alloc (.cells #[a0, a1] t)) w1) :
    w1.cell? ⟨w.heap.size, 0, none⟩ = some a0 ∧ w1.cell? ⟨w.heap.size, 1, none⟩ = some a1 ∧ Ext w w1 :=
  ⟨h.cell (by simp), h.cell (by simp), Ext.trans ((Ext.refl _).alloc _) h⟩

set_option maxHeartbeats 1000000 in
theorem l7Wrong_any (v vs : Value) (f : CNF) (ss : List RS) (w : World) (hx : CnfV w v f) (hs : Steps w vs ss) :
    Calls Tryz.prog 109 #[v, vs] w (IntE w (wrongTo f ss ss.length)) := by
  have hx0 := hx
  obtain ⟨cv, rfl, hl⟩ := hx
  obtain ⟨base, cap, rfl, hc1, hc2, hcell⟩ := hs.open
  clear hcell
  go_enter Tryz.func109, Tryz.ntmps109
  go_wp2
  go_loopw [5] (fun i wr => ∃ k : Nat, k ≤ ss.length ∧ i = .int .i64 k ∧ corrTo f ss k = true ∧ Ext (w.alloc (.cells #[.int .i64 f.vars, cv] 26)) wr) (fun i _ => ss.length - (intOf i).toNat)
  case atStart => exact ⟨0, Nat.zero_le _, rfl, rfl, Ext.refl _⟩
  case round =>
    obtain ⟨k, hk, rfl, hno, hE⟩ := hrel
    obtain ⟨f0, f1, hE1⟩ := own2_cells hE
    have HN := Lib.hid hno
    clear hno
    by_cases hlt : k < ss.length
    · cases hc : correctB f ss k
      all_goals go_wp2_with (go_at_call 131; refine (l7Correct_any _ _ f ss k _ (hx0.ext hE1) (hs.ext hE1) hlt).mono ?_; rw [hc]; rintro e w2 ⟨rfl, he2⟩)
      · go_ret
        exact intE (wrongTo_at HN.out hc _ hlt).1.symm (hE1.trans he2)
      · exact ⟨⟨k + 1, by omega, by go_num, by simp [corrTo, HN.out, hc], hE.trans he2⟩, by simp [intOf]; omega⟩
    · go_wp2
      go_ret
      have := HN.out
      rw [show k = ss.length by omega] at this
      exact intE (wrongTo_of this).symm hE1

def askedB (f : CNF) (ss : List RS) : Bool := decide (ss.length ≤ 200) && goodCnf f

set_option maxHeartbeats 1000000 in
theorem l7Asked_any (v vs : Value) (f : CNF) (ss : List RS) (w : World) (hx : CnfV w v f) (hs : Steps w vs ss) :
    Calls Tryz.prog 108 #[v, vs] w (BoolE w (askedB f ss)) := by
  have hx0 := hx
  obtain ⟨cv, rfl, hl⟩ := hx
  obtain ⟨base, cap, rfl, hc1, hc2, hcell⟩ := hs.open
  clear hcell
  by_cases h : ss.length ≤ 200
  · have h' : (ss.length : Int) ≤ 200 := by omega
    go_enter Tryz.func108, Tryz.ntmps108
    go_wp2_with (go_at_call 111; refine (l2Good_any _ f _ (hx0.ext (by repeat (first | exact Ext.refl _ | assumption | apply Ext.dn | apply Ext.drew | apply Ext.alloc)))).mono ?_; rintro e w2 ⟨rfl, he2⟩)
    go_ret
    exact boolE (by simp [askedB, h]) (Ext.trans (by repeat (first | exact Ext.refl _ | assumption | apply Ext.dn | apply Ext.drew | apply Ext.alloc)) he2)
  · have h' : ¬ (ss.length : Int) ≤ 200 := by omega
    go_enter Tryz.func108, Tryz.ntmps108
    go_wp2
    go_ret
    exact boolE (by simp [askedB, h]) (by repeat (first | exact Ext.refl _ | assumption | apply Ext.dn | apply Ext.drew | apply Ext.alloc))

/-- a valid derivation of a valid Cnf -/
def goodB (f : CNF) (ss : List RS) : Bool := askedB f ss && corrTo f ss ss.length

theorem wrong_neg (f : CNF) (ss : List RS) (n : Nat) : decide (wrongTo f ss n < 0) = corrTo f ss n := by
  induction n with
  | zero => rfl
  | succ n ih =>
    by_cases h1 : corrTo f ss n = true
    · by_cases h2 : correctB f ss n = true
      · simp [wrongTo, corrTo, h1, h2]
      · have h2' : correctB f ss n = false := by simpa using h2
        have : ¬ ((n : Int) < 0) := by omega
        simp [wrongTo, corrTo, h1, h2', this]
    · have h1' : corrTo f ss n = false := by simpa using h1
      rw [h1'] at ih
      have h3 : ¬ wrongTo f ss n < 0 := by simpa using ih
      have h4 : wrongTo f ss (n + 1) = wrongTo f ss n := by simp [wrongTo, h1']
      rw [h4]
      simp [corrTo, h1', h3]

set_option maxHeartbeats 1000000 in
theorem l7Good_any (v vs : Value) (f : CNF) (ss : List RS) (w : World) (hx : CnfV w v f) (hs : Steps w vs ss) :
    Calls Tryz.prog 80 #[v, vs] w (BoolE w (goodB f ss)) := by
  have hx0 := hx
  obtain ⟨cv, rfl, hl⟩ := hx
  cases h : askedB f ss
  all_goals
    go_enter Tryz.func80, Tryz.ntmps80
    go_wp2_with (first | (go_at_call 108; refine (l7Asked_any _ _ f ss _ (hx0.ext (by repeat (first | exact Ext.refl _ | assumption | apply Ext.dn | apply Ext.drew | apply Ext.alloc))) (hs.ext (by repeat (first | exact Ext.refl _ | assumption | apply Ext.dn | apply Ext.drew | apply Ext.alloc)))).mono ?_; rw [h]; rintro e w2 ⟨rfl, he2⟩; obtain ⟨f0, f1, hE1⟩ := own2_cells he2) | (go_at_call 109; refine (l7Wrong_any _ _ f ss _ (hx0.ext hE1) (hs.ext hE1)).mono ?_; rintro e w3 ⟨rfl, he3⟩))
    go_ret
  · exact boolE (by simp [goodB, h]) hE1
  · exact boolE (by simp [goodB, h, ← wrong_neg]) (hE1.trans he3)

def takesB (f : CNF) (ss : List RS) : Bool := decide (0 < ss.length) && goodB f ss

set_option maxHeartbeats 1000000 in
theorem l8Takes_any (v vs : Value) (f : CNF) (ss : List RS) (w : World) (hx : CnfV w v f) (hs : Steps w vs ss) :
    Calls Tryz.prog 44 #[v, vs] w (BoolE w (takesB f ss)) := by
  have hx0 := hx
  obtain ⟨cv, rfl, hl⟩ := hx
  obtain ⟨base, cap, rfl, hc1, hc2, hcell⟩ := hs.open
  clear hcell
  by_cases h : 0 < ss.length
  · have h' : (0 : Int) < (ss.length : Int) := by omega
    go_enter Tryz.func44, Tryz.ntmps44
    go_wp2_with (go_at_call 80; refine (l7Good_any _ _ f ss _ (hx0.ext (by repeat (first | exact Ext.refl _ | assumption | apply Ext.dn | apply Ext.drew | apply Ext.alloc))) (hs.ext (by repeat (first | exact Ext.refl _ | assumption | apply Ext.dn | apply Ext.drew | apply Ext.alloc)))).mono ?_; rintro e w2 ⟨rfl, he2⟩)
    go_ret
    exact boolE (by simp [takesB, h]) (Ext.trans (by repeat (first | exact Ext.refl _ | assumption | apply Ext.dn | apply Ext.drew | apply Ext.alloc)) he2)
  · have h' : ¬ 0 < ss.length := h
    go_enter Tryz.func44, Tryz.ntmps44
    go_wp2
    go_ret
    exact boolE (by simp [takesB, h]) (by repeat (first | exact Ext.refl _ | assumption | apply Ext.dn | apply Ext.drew | apply Ext.alloc))
end Go.Proofs.YtfnjhodologfeaaGreat
