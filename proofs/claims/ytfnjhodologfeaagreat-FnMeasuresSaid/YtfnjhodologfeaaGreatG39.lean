/- Parts of the proof: D25. DrawWidthOfProof, DrawUnfoldProof -/
import Derived.Test.YtfnjhodologfeaaGreatG38
import Derived.Test.YtfnjhodologfeaaGreatG25
set_option linter.unusedSimpArgs false
set_option linter.unusedVariables false
/- DrawWidthOfProof, DrawUnfoldProof -/
namespace Go.Proofs.YtfnjhodologfeaaGreat
open Go.RowKit

theorem cur_made {w : World} {v : Value} {bs : List Int} (h : Byts w v bs) : Cur (w.alloc (.cells #[v, .int .i64 0, .int .u64 0] 63)) w.heap.size 0 :=
  ⟨v, bs, 0, 0, heap_alloc_new w _, h.ext (by repeat (first | exact Ext.refl _ | assumption | apply Ext.dn | apply Ext.drew | apply Ext.alloc)), by omega, by omega⟩
set_option maxRecDepth 100000 in
set_option maxHeartbeats 2000000 in
theorem DrawWidth_any (v : Value) (bs : List Int) (w : World) (hb : Byts w v bs) : Calls Tryz.prog 38 #[v] w (DrawnP w) := by
  have hb0 := hb
  obtain ⟨base, cap, rfl, _, _, _⟩ := hb.open
  obtain ⟨wA, hwA⟩ : ∃ wA, w.alloc (.cells #[.int .i64 0, .slice none 0 0] 26) = wA := ⟨_, rfl⟩
  have hEA : Ext w wA := by rw [← hwA]; exact (by repeat (first | exact Ext.refl _ | assumption | apply Ext.dn | apply Ext.drew | apply Ext.alloc))
  have hR : CBlk wA w.heap.size 0 (.slice none 0 0) := by rw [← hwA]; exact CBlk.made _ _ _
  have hsA : wA.heap.size = w.heap.size + 1 := by rw [← hwA]; simp
  have hC := cur_made (hb0.ext hEA)
  obtain ⟨wB, hwB⟩ : ∃ wB, wA.alloc (.cells #[.slice base bs.length cap, .int .i64 0, .int .u64 0] 63) = wB := ⟨_, rfl⟩
  have hEB : Ext wA wB := by rw [← hwB]; exact (by repeat (first | exact Ext.refl _ | assumption | apply Ext.dn | apply Ext.drew | apply Ext.alloc))
  rw [hwB, hsA] at hC
  have hRB := hR.ext hEB
  have hsB : wB.heap.size = w.heap.size + 2 := by rw [← hwB]; simp; omega
  go_enter Tryz.func38, Tryz.ntmps38
  go_wp2_with (go_at_call 54; refine (proof_any (w.heap.size + 1) 0 _ hC (by omega)).mono ?_; rintro e w1 ⟨n, cv, pv, rfl, f, ss, rfl, hls, hst, hl, hrk, hv0, hv1, hd1⟩; obtain ⟨cb, cc, rfl, _, _, _⟩ := hls.open; have hR1 := hRB.grown hd1.keep (fun e => by injection e with e; omega); obtain ⟨y0, y1⟩ := hR1.cells; have yf0 := hR1.frozen 0; have yf1 := hR1.frozen 1)
  have hg1 := grown_set w1 w.heap.size 0 (.int .i64 f.vars)
  have hg2 := grown_set (w1.setCell ⟨w.heap.size, 0, none⟩ (.int .i64 f.vars)) w.heap.size 1 (.slice cb f.clauses.length cc)
  have hr1 := hR1.set0 f.vars
  have hL : ∀ k, some w.heap.size = some k → ∃ cur fz T, w1.heap[k]? = some (.cells cur T fz) ∧ T ≠ 3 ∧ T ≠ 33 := fun k hk => by injection hk with hk; subst hk; exact ⟨_, _, _, hR1, by decide, by decide⟩
  have hL1 : ∀ k, some w.heap.size = some k → ∃ cur fz T, (w1.setCell ⟨w.heap.size, 0, none⟩ (.int .i64 f.vars)).heap[k]? = some (.cells cur T fz) ∧ T ≠ 3 ∧ T ≠ 33 := fun k hk => by injection hk with hk; subst hk; exact ⟨_, _, _, hr1, by decide, by decide⟩
  have hS : ∀ k, some w.heap.size = some k → ∃ cur fz T, w1.heap[k]? = some (.cells cur T fz) ∧ T ≠ 3 ∧ T ≠ 40 := fun k hk => by injection hk with hk; subst hk; exact ⟨_, _, _, hR1, by decide, by decide⟩
  have hS1 : ∀ k, some w.heap.size = some k → ∃ cur fz T, (w1.setCell ⟨w.heap.size, 0, none⟩ (.int .i64 f.vars)).heap[k]? = some (.cells cur T fz) ∧ T ≠ 3 ∧ T ≠ 40 := fun k hk => by injection hk with hk; subst hk; exact ⟨_, _, _, hr1, by decide, by decide⟩
  have hx1 : Ext w w1 := by
    have hk := hd1.keep
    have hxB := hEA.trans hEB
    exact Below.grown hxB hk hxB.size (fun k e => by injection e with e; omega)
  refine bodyPost_ret (results_cell_row2 rfl _ _ w.heap.size _ _ _ _ rfl (hr1.set1 (.slice cb f.clauses.length cc)) Tryz.underlying26 rfl (by kernel_rfl)) rfl ?_
  refine ⟨_, _, _, rfl, f, ss, rfl, (hls.turned hg1 hL).turned hg2 hL1, (hst.turned hg1 hS).turned hg2 hS1, hl, hrk, ?_⟩
  exact Below.grown (Below.grown hx1 hg1 hx1.size (fun k e => by injection e with e; omega)) hg2 (by simp; exact hx1.size) (fun k e => by injection e with e; omega)
set_option maxRecDepth 100000 in
set_option maxHeartbeats 2000000 in
theorem DrawUnfold_any : DrawSaid := by
  intro v bs w hb hlen
  have hb0 := hb
  obtain ⟨base, cap, rfl, _, _, _⟩ := hb.open
  obtain ⟨wA, hwA⟩ : ∃ wA, w.alloc (.cells #[.int .i64 0, .slice none 0 0] 26) = wA := ⟨_, rfl⟩
  have hEA : Ext w wA := by rw [← hwA]; exact (by repeat (first | exact Ext.refl _ | assumption | apply Ext.dn | apply Ext.drew | apply Ext.alloc))
  have hR : CBlk wA w.heap.size 0 (.slice none 0 0) := by rw [← hwA]; exact CBlk.made _ _ _
  go_enter Tryz.func6, Tryz.ntmps6
  go_wp2_with (go_at_call 38; refine (DrawWidth_any _ bs _ (hb0.ext hEA)).mono ?_; rintro e w1 ⟨n, cv, pv, rfl, f, ss, rfl, hls, hst, hl, hrk, hE1⟩; obtain ⟨cb, cc, rfl, _, _, _⟩ := hls.open; have hR1 := hR.ext hE1; obtain ⟨y0, y1⟩ := hR1.cells; have yf0 := hR1.frozen 0; have yf1 := hR1.frozen 1)
  have hg1 := grown_set w1 w.heap.size 0 (.int .i64 f.vars)
  have hg2 := grown_set (w1.setCell ⟨w.heap.size, 0, none⟩ (.int .i64 f.vars)) w.heap.size 1 (.slice cb f.clauses.length cc)
  have hr1 := hR1.set0 f.vars
  have hL : ∀ k, some w.heap.size = some k → ∃ cur fz T, w1.heap[k]? = some (.cells cur T fz) ∧ T ≠ 3 ∧ T ≠ 33 := fun k hk => by injection hk with hk; subst hk; exact ⟨_, _, _, hR1, by decide, by decide⟩
  have hL1 : ∀ k, some w.heap.size = some k → ∃ cur fz T, (w1.setCell ⟨w.heap.size, 0, none⟩ (.int .i64 f.vars)).heap[k]? = some (.cells cur T fz) ∧ T ≠ 3 ∧ T ≠ 33 := fun k hk => by injection hk with hk; subst hk; exact ⟨_, _, _, hr1, by decide, by decide⟩
  have hS : ∀ k, some w.heap.size = some k → ∃ cur fz T, w1.heap[k]? = some (.cells cur T fz) ∧ T ≠ 3 ∧ T ≠ 40 := fun k hk => by injection hk with hk; subst hk; exact ⟨_, _, _, hR1, by decide, by decide⟩
  have hS1 : ∀ k, some w.heap.size = some k → ∃ cur fz T, (w1.setCell ⟨w.heap.size, 0, none⟩ (.int .i64 f.vars)).heap[k]? = some (.cells cur T fz) ∧ T ≠ 3 ∧ T ≠ 40 := fun k hk => by injection hk with hk; subst hk; exact ⟨_, _, _, hr1, by decide, by decide⟩
  have hx1 : Ext w w1 := hEA.trans hE1
  refine bodyPost_ret (results_cell_row2 rfl _ _ w.heap.size _ _ _ _ rfl (hr1.set1 (.slice cb f.clauses.length cc)) Tryz.underlying26 rfl (by kernel_rfl)) rfl ?_
  refine ⟨_, _, _, rfl, f, ss, rfl, (hls.turned hg1 hL).turned hg2 hL1, (hst.turned hg1 hS).turned hg2 hS1, hl, hrk, ?_⟩
  exact Below.grown (Below.grown hx1 hg1 hx1.size (fun k e => by injection e with e; omega)) hg2 (by simp; exact hx1.size) (fun k e => by injection e with e; omega)
end Go.Proofs.YtfnjhodologfeaaGreat
