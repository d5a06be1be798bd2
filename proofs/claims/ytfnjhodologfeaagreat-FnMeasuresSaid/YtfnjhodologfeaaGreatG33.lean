/- Parts of the proof: D19. l7Moved -/
import Derived.Test.YtfnjhodologfeaaGreatG32
import Derived.Deep.RegionHeld3
set_option linter.unusedSimpArgs false
set_option linter.unusedVariables false
/- l7Moved -/
namespace Go.Proofs.YtfnjhodologfeaaGreat
open Go.RowKit

def movedS (to : List Int) (s : RS) : RS := { clause := s.clause, left := if 0 ≤ s.left then getI to s.left else s.left, right := if 0 ≤ s.left ∧ 0 ≤ s.right then getI to s.right else s.right, pivot := s.pivot }
set_option maxRecDepth 100000 in
set_option maxHeartbeats 4000000 in
theorem l7Moved_any (v vt : Value) (s : RS) (to : List Int) (w : World) (hv : StepV w v s) (ht : Ints w vt to) (hl : s.clause.length ≤ 1000000) (h1 : 0 ≤ s.left → s.left < to.length) (h2 : 0 ≤ s.left → 0 ≤ s.right → s.right < to.length) :
    Calls Tryz.prog 169 #[v, vt] w fun e w' => ∃ b c, e = .returned (.agg #[.slice b s.clause.length c, .int .i64 (movedS to s).left, .int .i64 (movedS to s).right, .int .i64 s.pivot]) ∧ Ints w' (.slice b s.clause.length c) s.clause ∧ Ext w w' ∧ ∀ gq, (Value.slice b s.clause.length c).ownBlock = some gq → w.heap.size ≤ gq := by
  obtain ⟨ub, uc, rfl, hi⟩ := hv.open
  obtain ⟨tb, tc, rfl, _, _, htc⟩ := ht.open
  obtain ⟨w1, hw1⟩ : ∃ w1, (w.alloc (.cells #[.slice ub s.clause.length uc, .int .i64 s.left, .int .i64 s.right, .int .i64 s.pivot] 40)).alloc (.cells #[.slice none 0 0, .int .i64 0, .int .i64 0, .int .i64 0] 40) = w1 := ⟨_, rfl⟩
  have hP : SBlk w1 w.heap.size (.slice ub s.clause.length uc) s.left s.right s.pivot := by rw [← hw1]; exact (SBlk.made w (.slice ub s.clause.length uc) s.left s.right s.pivot).ext (by repeat (first | exact Ext.refl _ | assumption | apply Ext.dn | apply Ext.drew | apply Ext.alloc))
  have hR : SBlk w1 (w.heap.size + 1) (.slice none 0 0) 0 0 0 := by
    rw [← hw1]
    have := SBlk.made (w.alloc (.cells #[.slice ub s.clause.length uc, .int .i64 s.left, .int .i64 s.right, .int .i64 s.pivot] 40)) (.slice none 0 0) 0 0 0
    rw [World.size_alloc] at this
    exact this
  have hE : Ext w w1 := by rw [← hw1]; exact (by repeat (first | exact Ext.refl _ | assumption | apply Ext.dn | apply Ext.drew | apply Ext.alloc))
  obtain ⟨c0, c1, c2, c3⟩ := hP.cells
  go_enter Tryz.func169, Tryz.ntmps169
  go_wp2
  (try simp only [hw1])
  have hne1 : w.heap.size ≠ w1.heap.size := by have := hP.lt; omega
  have hne2 : w1.heap.size ≠ w.heap.size := by have := hP.lt; omega
  have kA := fun o => (hP.ext (((Ext.refl w1).alloc o).drew)).cells
  go_region_held3 (fun w' => w'.cell? ⟨w.heap.size, 0, none⟩ = some (.slice ub s.clause.length uc) ∧ w'.cell? ⟨w.heap.size, 1, none⟩ = some (.int .i64 s.left) ∧ w'.cell? ⟨w.heap.size, 2, none⟩ = some (.int .i64 s.right) ∧ w'.cell? ⟨w.heap.size, 3, none⟩ = some (.int .i64 s.pivot))
    (first
      | exact ⟨c0, c1, c2, c3⟩
      | exact ⟨d0, d1, d2, d3⟩
      | exact hP3.cells
      | exact hP4.cells
      | (with_reducible exact kA _)
      | go_keep)
    ((first
      | (go_simp; go_at_call 136; refine (l1Own_any _ s.clause _ (hi.ext (hE.trans (by repeat (first | exact Ext.refl _ | assumption | apply Ext.dn | apply Ext.drew | apply Ext.alloc)))) (by omega)).mono ?_; rintro e w2 ⟨r2, rfl, ho2, he2⟩; have hx2 : Ext w1 w2 := Ext.trans (by repeat (first | exact Ext.refl _ | assumption | apply Ext.dn | apply Ext.drew | apply Ext.alloc)) he2; have hP2 := hP.ext hx2; obtain ⟨d0, d1, d2, d3⟩ := hP2.cells; have hR2 := hR.ext hx2; have hN := SBlk.made w2 (.slice none 0 0) 0 0 0; obtain ⟨n0, n1, n2, n3⟩ := hN.cells; have nf0 := hN.frozen 0; have nf1 := hN.frozen 1; have nf2 := hN.frozen 2; have nf3 := hN.frozen 3; have hP3 := hP2.ext ((Ext.refl w2).alloc (.cells #[.slice none 0 0, .int .i64 0, .int .i64 0, .int .i64 0] 40)); have hR3 := hR2.ext ((Ext.refl w2).alloc (.cells #[.slice none 0 0, .int .i64 0, .int .i64 0, .int .i64 0] 40)); have hlt2 := hP2.lt; have hlt3 := hR2.lt; (first | (have hN1 : SBlk w2 w1.heap.size (.slice none 0 0) 0 0 0 := (SBlk.made w1 (.slice none 0 0) 0 0 0).ext (Ext.trans (show Ext (w1.alloc (.cells #[.slice none 0 0, .int .i64 0, .int .i64 0, .int .i64 0] 40)) _ from (by first | exact Ext.drew (Ext.refl _) | fail)) he2); obtain ⟨m0, m1, m2, m3⟩ := hN1.cells; have mf0 := hN1.frozen 0; have mf1 := hN1.frozen 1; have mf2 := hN1.frozen 2; have mf3 := hN1.frozen 3) | skip); obtain ⟨vb, vc, rfl, _, _, _⟩ := ho2.ints.open)))
  · have HFR := Lib.hid (show ∀ gq, (Value.slice vb s.clause.length vc).ownBlock = some gq → w.heap.size ≤ gq from fun gq hgq => by have hf1 := (ho2.lt gq hgq).1; have hf2 := hE.size; simp at hf1; omega)
    have hx3 : Ext w2 (w2.alloc (.cells #[.slice vb s.clause.length vc, .int .i64 s.left, .int .i64 s.right, .int .i64 s.pivot] 40)) := (by repeat (first | exact Ext.refl _ | assumption | apply Ext.dn | apply Ext.drew | apply Ext.alloc))
    have hq := SBlk.made w2 (.slice vb s.clause.length vc) s.left s.right s.pivot
    have hPq := hP2.ext hx3
    have hRq := hR2.ext hx3
    have hIq := ho2.ints.ext hx3
    have hEq := (hE.trans hx2).trans hx3
    obtain ⟨bq, hbq⟩ : ∃ bq, w2.heap.size = bq := ⟨_, rfl⟩
    generalize w2.alloc (.cells #[.slice vb s.clause.length vc, .int .i64 s.left, .int .i64 s.right, .int .i64 s.pivot] 40) = wq at hq hPq hRq hIq hEq ⊢
    rw [hbq] at hq ⊢
    have hbp : bq ≠ w.heap.size := by omega
    have hbr : bq ≠ w.heap.size + 1 := by omega
    have hbw : w.heap.size ≤ bq := by omega
    clear d0 d1 d2 d3 n0 n1 n2 n3 nf0 nf1 nf2 nf3 kA
    have hEs := hEq.size
    have hlw := hPq.lt
    have hlr := hRq.lt
    obtain ⟨z0, z1, z2, z3⟩ := hPq.cells
    obtain ⟨e0, e1, e2, e3⟩ := hq.cells
    have ef1 := hq.frozen 1
    have ef2 := hq.frozen 2
    by_cases hle : 0 ≤ s.left
    · obtain ⟨li, hli⟩ := Int.eq_ofNat_of_zero_le hle
      have hll : li < to.length := by have := h1 hle; omega
      obtain ⟨b8, off8, rfl, _, h8⟩ := htc li hll
      obtain ⟨x, hx, hxc⟩ := h8 li hll
      have hxq := hxc _ hEq
      have hgx : getI to s.left = x := by rw [hli]; exact getI_at hx
      have hg2 := grown_set wq bq 1 (.int .i64 x)
      have hq2 := hq.set1 x
      have hP2' := hPq.grown hg2 (fun e => hbp (by injection e))
      have hR2' := hRq.grown hg2 (fun e => hbr (by injection e))
      have hI2 := hIq.turned hg2 (hq.type (by decide))
      have hE2 := hEq.setCell (p := ⟨bq, 1, none⟩) hbw (.int .i64 x)
      obtain ⟨zz0, zz1, zz2, zz3⟩ := hP2'.cells
      by_cases hre : 0 ≤ s.right
      · obtain ⟨ri, hri⟩ := Int.eq_ofNat_of_zero_le hre
        have hrl : ri < to.length := by have := h2 hle hre; omega
        obtain ⟨y, hy, hyc⟩ := h8 ri hrl
        have hyq := hyc _ hE2
        have hgy : getI to s.right = y := by rw [hri]; exact getI_at hy
        have hg3 := grown_set (wq.setCell ⟨bq, 1, none⟩ (.int .i64 x)) bq 2 (.int .i64 y)
        have hq3 := hq2.set2 y
        have hR3' := hR2'.grown hg3 (fun e => hbr (by injection e))
        have hI3 := hI2.turned hg3 (hq2.type (by decide))
        have hE3 := hE2.setCell (p := ⟨bq, 2, none⟩) hbw (.int .i64 y)
        have hqf2 := hq2.frozen 2
        obtain ⟨q20, q21, q22, q23⟩ := hq2.cells
        have hml : (movedS to s).left = x := by simp [movedS, hle, hgx]
        have hmr : (movedS to s).right = y := by simp [movedS, hle, hre, hgy]
        have HML := Lib.hid hml
        have HMR := Lib.hid hmr
        clear hml hmr hgx hgy
        obtain ⟨x0, x1, x2, x3⟩ := hq3.cells
        obtain ⟨y0, y1, y2, y3⟩ := hR3'.cells
        have yf0 := hR3'.frozen 0
        have yf1 := hR3'.frozen 1
        have yf2 := hR3'.frozen 2
        have yf3 := hR3'.frozen 3
        go_wp2
        obtain ⟨hs1, hg1⟩ := hR3'.store (u := .slice vb s.clause.length vc) (l := x) (r := y) (p := s.pivot)
        refine bodyPost_ret (results_cell_row rfl _ _ (w.heap.size + 1) _ _ _ _ rfl hs1 Tryz.underlying40 rfl (by kernel_rfl)) rfl ?_
        rw [HML.out, HMR.out]
        refine ⟨vb, vc, rfl, hI3.turned hg1 (hR3'.type (by decide)), Below.grown hE3 hg1 hE3.size (fun j hj => by injection hj with hj; omega), HFR.out⟩
      · have hml : (movedS to s).left = x := by simp [movedS, hle, hgx]
        have hmr : (movedS to s).right = s.right := by simp [movedS, hre]
        have HML := Lib.hid hml
        have HMR := Lib.hid hmr
        clear hml hmr hgx
        obtain ⟨x0, x1, x2, x3⟩ := hq2.cells
        obtain ⟨y0, y1, y2, y3⟩ := hR2'.cells
        have yf0 := hR2'.frozen 0
        have yf1 := hR2'.frozen 1
        have yf2 := hR2'.frozen 2
        have yf3 := hR2'.frozen 3
        go_wp2
        obtain ⟨hs1, hg1⟩ := hR2'.store (u := .slice vb s.clause.length vc) (l := x) (r := s.right) (p := s.pivot)
        refine bodyPost_ret (results_cell_row rfl _ _ (w.heap.size + 1) _ _ _ _ rfl hs1 Tryz.underlying40 rfl (by kernel_rfl)) rfl ?_
        rw [HML.out, HMR.out]
        refine ⟨vb, vc, rfl, hI2.turned hg1 (hR2'.type (by decide)), Below.grown hE2 hg1 hE2.size (fun j hj => by injection hj with hj; omega), HFR.out⟩
    · have hml : (movedS to s).left = s.left := by simp [movedS, hle]
      have hmr : (movedS to s).right = s.right := by simp [movedS, hle]
      have HML := Lib.hid hml
      have HMR := Lib.hid hmr
      clear hml hmr
      obtain ⟨x0, x1, x2, x3⟩ := hq.cells
      obtain ⟨y0, y1, y2, y3⟩ := hRq.cells
      have yf0 := hRq.frozen 0
      have yf1 := hRq.frozen 1
      have yf2 := hRq.frozen 2
      have yf3 := hRq.frozen 3
      go_wp2
      obtain ⟨hs1, hg1⟩ := hRq.store (u := .slice vb s.clause.length vc) (l := s.left) (r := s.right) (p := s.pivot)
      refine bodyPost_ret (results_cell_row rfl _ _ (w.heap.size + 1) _ _ _ _ rfl hs1 Tryz.underlying40 rfl (by kernel_rfl)) rfl ?_
      rw [HML.out, HMR.out]
      refine ⟨vb, vc, rfl, hIq.turned hg1 (hRq.type (by decide)), Below.grown hEq hg1 hEq.size (fun j hj => by injection hj with hj; omega), HFR.out⟩

  · have HFR := Lib.hid (show ∀ gq, (Value.slice vb s.clause.length vc).ownBlock = some gq → w.heap.size ≤ gq from fun gq hgq => by have hf1 := (ho2.lt gq hgq).1; have hf2 := hE.size; simp at hf1; omega)
    obtain ⟨hq, hg0⟩ := hN1.store (u := .slice vb s.clause.length vc) (l := s.left) (r := s.right) (p := s.pivot)
    have hlP := hP.lt
    have hlR := hR.lt
    have hPq := hP2.grown hg0 (fun e => by injection e with e; omega)
    have hRq := hR2.grown hg0 (fun e => by injection e with e; omega)
    have hIq := ho2.ints.turned hg0 (hN1.type (by decide))
    have hE20 := hE.trans hx2
    have hEq := Below.grown hE20 hg0 hE20.size (fun j hj => by injection hj with hj; omega)
    obtain ⟨bq, hbq⟩ : ∃ bq, w1.heap.size = bq := ⟨_, rfl⟩
    rw [hbq] at hq hPq hRq hIq hEq ⊢
    have hbp : bq ≠ w.heap.size := by omega
    have hbr : bq ≠ w.heap.size + 1 := by omega
    have hbw : w.heap.size ≤ bq := by omega
    generalize (((w2.setCell ⟨bq, 0, none⟩ (.slice vb s.clause.length vc)).setCell ⟨bq, 1, none⟩ (.int .i64 s.left)).setCell ⟨bq, 2, none⟩ (.int .i64 s.right)).setCell ⟨bq, 3, none⟩ (.int .i64 s.pivot) = wq at hq hPq hRq hIq hEq ⊢
    clear d0 d1 d2 d3 n0 n1 n2 n3 nf0 nf1 nf2 nf3 kA m0 m1 m2 m3 mf0 mf1 mf2 mf3
    have hEs := hEq.size
    have hlw := hPq.lt
    have hlr := hRq.lt
    obtain ⟨z0, z1, z2, z3⟩ := hPq.cells
    obtain ⟨e0, e1, e2, e3⟩ := hq.cells
    have ef1 := hq.frozen 1
    have ef2 := hq.frozen 2
    by_cases hle : 0 ≤ s.left
    · obtain ⟨li, hli⟩ := Int.eq_ofNat_of_zero_le hle
      have hll : li < to.length := by have := h1 hle; omega
      obtain ⟨b8, off8, rfl, _, h8⟩ := htc li hll
      obtain ⟨x, hx, hxc⟩ := h8 li hll
      have hxq := hxc _ hEq
      have hgx : getI to s.left = x := by rw [hli]; exact getI_at hx
      have hg2 := grown_set wq bq 1 (.int .i64 x)
      have hq2 := hq.set1 x
      have hP2' := hPq.grown hg2 (fun e => hbp (by injection e))
      have hR2' := hRq.grown hg2 (fun e => hbr (by injection e))
      have hI2 := hIq.turned hg2 (hq.type (by decide))
      have hE2 := hEq.setCell (p := ⟨bq, 1, none⟩) hbw (.int .i64 x)
      obtain ⟨zz0, zz1, zz2, zz3⟩ := hP2'.cells
      by_cases hre : 0 ≤ s.right
      · obtain ⟨ri, hri⟩ := Int.eq_ofNat_of_zero_le hre
        have hrl : ri < to.length := by have := h2 hle hre; omega
        obtain ⟨y, hy, hyc⟩ := h8 ri hrl
        have hyq := hyc _ hE2
        have hgy : getI to s.right = y := by rw [hri]; exact getI_at hy
        have hg3 := grown_set (wq.setCell ⟨bq, 1, none⟩ (.int .i64 x)) bq 2 (.int .i64 y)
        have hq3 := hq2.set2 y
        have hR3' := hR2'.grown hg3 (fun e => hbr (by injection e))
        have hI3 := hI2.turned hg3 (hq2.type (by decide))
        have hE3 := hE2.setCell (p := ⟨bq, 2, none⟩) hbw (.int .i64 y)
        have hqf2 := hq2.frozen 2
        obtain ⟨q20, q21, q22, q23⟩ := hq2.cells
        have hml : (movedS to s).left = x := by simp [movedS, hle, hgx]
        have hmr : (movedS to s).right = y := by simp [movedS, hle, hre, hgy]
        have HML := Lib.hid hml
        have HMR := Lib.hid hmr
        clear hml hmr hgx hgy
        obtain ⟨x0, x1, x2, x3⟩ := hq3.cells
        obtain ⟨y0, y1, y2, y3⟩ := hR3'.cells
        have yf0 := hR3'.frozen 0
        have yf1 := hR3'.frozen 1
        have yf2 := hR3'.frozen 2
        have yf3 := hR3'.frozen 3
        go_wp2
        obtain ⟨hs1, hg1⟩ := hR3'.store (u := .slice vb s.clause.length vc) (l := x) (r := y) (p := s.pivot)
        refine bodyPost_ret (results_cell_row rfl _ _ (w.heap.size + 1) _ _ _ _ rfl hs1 Tryz.underlying40 rfl (by kernel_rfl)) rfl ?_
        rw [HML.out, HMR.out]
        refine ⟨vb, vc, rfl, hI3.turned hg1 (hR3'.type (by decide)), Below.grown hE3 hg1 hE3.size (fun j hj => by injection hj with hj; omega), HFR.out⟩
      · have hml : (movedS to s).left = x := by simp [movedS, hle, hgx]
        have hmr : (movedS to s).right = s.right := by simp [movedS, hre]
        have HML := Lib.hid hml
        have HMR := Lib.hid hmr
        clear hml hmr hgx
        obtain ⟨x0, x1, x2, x3⟩ := hq2.cells
        obtain ⟨y0, y1, y2, y3⟩ := hR2'.cells
        have yf0 := hR2'.frozen 0
        have yf1 := hR2'.frozen 1
        have yf2 := hR2'.frozen 2
        have yf3 := hR2'.frozen 3
        go_wp2
        obtain ⟨hs1, hg1⟩ := hR2'.store (u := .slice vb s.clause.length vc) (l := x) (r := s.right) (p := s.pivot)
        refine bodyPost_ret (results_cell_row rfl _ _ (w.heap.size + 1) _ _ _ _ rfl hs1 Tryz.underlying40 rfl (by kernel_rfl)) rfl ?_
        rw [HML.out, HMR.out]
        refine ⟨vb, vc, rfl, hI2.turned hg1 (hR2'.type (by decide)), Below.grown hE2 hg1 hE2.size (fun j hj => by injection hj with hj; omega), HFR.out⟩
    · have hml : (movedS to s).left = s.left := by simp [movedS, hle]
      have hmr : (movedS to s).right = s.right := by simp [movedS, hle]
      have HML := Lib.hid hml
      have HMR := Lib.hid hmr
      clear hml hmr
      obtain ⟨x0, x1, x2, x3⟩ := hq.cells
      obtain ⟨y0, y1, y2, y3⟩ := hRq.cells
      have yf0 := hRq.frozen 0
      have yf1 := hRq.frozen 1
      have yf2 := hRq.frozen 2
      have yf3 := hRq.frozen 3
      go_wp2
      obtain ⟨hs1, hg1⟩ := hRq.store (u := .slice vb s.clause.length vc) (l := s.left) (r := s.right) (p := s.pivot)
      refine bodyPost_ret (results_cell_row rfl _ _ (w.heap.size + 1) _ _ _ _ rfl hs1 Tryz.underlying40 rfl (by kernel_rfl)) rfl ?_
      rw [HML.out, HMR.out]
      refine ⟨vb, vc, rfl, hIq.turned hg1 (hRq.type (by decide)), Below.grown hEq hg1 hEq.size (fun j hj => by injection hj with hj; omega), HFR.out⟩

end Go.Proofs.YtfnjhodologfeaaGreat
