/- Parts of the proof: K8, F1. -/
import Derived.Test.YtfnjhodologfeaaGreatG24
import Derived.Test.YtfnjhodologfeaaGreatG19
import Derived.Test.YtfnjhodologfeaaGreatG21
set_option linter.unusedSimpArgs false
set_option linter.unusedVariables false
/- the frame of a Cnf that is built -/
namespace Go.Proofs.YtfnjhodologfeaaGreat
open Go.RowKit

/-- since W only new blocks: the Cnf's block b and its own list of clauses -/
structure RF (W wr : World) (b : Nat) (n : Int) (cv : Value) (cl : List (List Int)) : Prop where
  ext : Ext W wr
  blk : CBlk wr b n cv
  own : OwnL wr W.heap.size cv cl
  ge : W.heap.size ≤ b
  ne : cv.ownBlock ≠ some b
theorem RF.more {W wr wr' : World} {b : Nat} {n : Int} {cv : Value} {cl : List (List Int)} (h : RF W wr b n cv cl) (hx : Ext wr wr') : RF W wr' b n cv cl :=
  ⟨h.ext.trans hx, h.blk.ext hx, h.own.ext hx, h.ge, h.ne⟩
theorem RF.push {W wr wr' : World} {b : Nat} {n : Int} {cv cv' : Value} {cl cl' : List (List Int)} (h : RF W wr b n cv cl) (ho : OwnL wr' W.heap.size cv' cl') (hg : wr.grownBy wr' cv.ownBlock) (hb : cv'.ownBlock = cv.ownBlock ∨ cv'.ownBlock = some wr.heap.size) :
    RF W (wr'.setCell ⟨b, 1, none⟩ cv') b n cv' cl' := by
  have hg7 := grown_set wr' b 1 cv'
  have r7' := h.blk.grown hg h.ne
  have ne7' : cv'.ownBlock ≠ some b := by
    rcases hb with hb | hb
    · rw [hb]; exact h.ne
    · rw [hb]; intro e; injection e with e; have := h.blk.lt; omega
  have hx' : Ext W wr' := Below.grown h.ext hg h.ext.size (fun k hk => (h.own.lt k hk).1)
  exact ⟨Below.grown hx' hg7 hx'.size (fun k hk => by injection hk with hk; have := h.ge; omega), r7'.set1 cv', ho.beside hg7 (fun k hk => by injection hk with hk; subst hk; exact ne7') (r7'.type (by decide)), h.ge, ne7'⟩
/-- a list of lists, while a row of another type turns -/
theorem Lists.turned {w w' : World} {v : Value} {l : List (List Int)} (h : Lists w v l) {row : Option Nat} (hg : w.grownBy w' row) (hT : ∀ k, row = some k → ∃ cur fz T, w.heap[k]? = some (.cells cur T fz) ∧ T ≠ 3 ∧ T ≠ 33) : Lists w' v l := by
  obtain ⟨vs, h1, h2, h3⟩ := h
  exact ⟨vs, h1, h2.turned hg (fun k hk => by obtain ⟨a, b, c, d, _, e⟩ := hT k hk; exact ⟨a, b, c, d, e⟩), fun i u xs a b => (h3 i u xs a b).turned hg (fun k hk => by obtain ⟨a, b, c, d, e, _⟩ := hT k hk; exact ⟨a, b, c, d, e⟩)⟩
end Go.Proofs.YtfnjhodologfeaaGreat
/- the law FnMeasures: its walk, where the steps are no proof -/
namespace Go.Proofs.YtfnjhodologfeaaGreat
open Go.RowKit

/-- what is drawn -/
def DrawnP (w : World) (e : Ending) (w' : World) : Prop :=
  ∃ (n : Int) (cv pv : Value), e = .returned (.tuple #[.agg #[.int .i64 n, cv], pv]) ∧ ∃ (f : CNF) (ss : List RS), f.vars = n ∧ Lists w' cv f.clauses ∧ Steps w' pv ss ∧ ss.length ≤ 1000 ∧ (takesB f ss = true → rk ss ss.length ≤ 28) ∧ Ext w w'
def DrawSaid : Prop := ∀ (v : Value) (bs : List Int) (w : World), Byts w v bs → bs.length ≤ 65536 → Calls Tryz.prog 6 #[v] w (DrawnP w)
set_option maxHeartbeats 400000 in
theorem rBig_any (v : Value) (bs : List Int) (w : World) (hb : Byts w v bs) : Calls Tryz.prog 5 #[v] w fun e w' => e = .returned (.bool (decide (65536 < bs.length))) ∧ w = w' := by
  obtain ⟨base, cap, rfl, h1, h2, _⟩ := hb.open
  by_cases h : 65536 < bs.length
  · have h' : (65536 : Int) < bs.length := by omega
    go_enter Tryz.func5, Tryz.ntmps5
    go_wp2
    go_ret
    simp [h]
  · have h' : ¬ (65536 : Int) < bs.length := by omega
    go_enter Tryz.func5, Tryz.ntmps5
    go_wp2
    go_ret
    simp [h]
theorem depL_len (ss : List RS) : (depL ss).length = ss.length := buildTo_length _ _ _
theorem sumL_len (g : RS → Int) (L : Int) (ss : List RS) : (sumL g L ss).length = ss.length := buildTo_length _ _ _
theorem usesL_len (ss : List RS) : (usesL ss).length = ss.length := by rw [usesL, cnts_length]
theorem Ints.openN {w : World} {v : Value} {xs : List Int} {n : Nat} (h : Ints w v xs) (hn : xs.length = n) : ∃ base cap, v = .slice base n cap ∧ n ≤ cap ∧ cap ≤ 9223372036854775807 := by
  subst hn
  obtain ⟨base, cap, h1, h2, h3, _⟩ := h.open
  exact ⟨base, cap, h1, h2, h3⟩
end Go.Proofs.YtfnjhodologfeaaGreat
